/-
The functions' code for the machine, printed by gen.py. The functions' code for the machine, printed by gen.py. The table of the functions. What is told from outside; the first contracts. What a call of each function unfolds to. Words: what the functions on words compute. The cursor: what its draws give. Drawn terms and intervals. Drawn terms with their width and variables; drawn intervals. What the law draws. Words that are good, operators and their operands. Operators and their operands; leaves.
Conditions: none beyond those that each theorem states.
-/
import Derived.Test.YtghhjbbildemiaaPt2
set_option linter.all false
namespace Go.Proofs.Ytghhjbbildemiaa.AM
open Go
/-- laws.big -/
def F1_c : AC :=
 (.seq (.reg false [⟨some 4, none, .mv (.k (.bool false))⟩] [0, 1])
 (.seq (.reg false [⟨some 5, none, .mv (.t 0)⟩, ⟨some 6, none, .len (.t 5)⟩, ⟨some 7, none, .bin .gtr (.t 6) (.k (.int .i64 1048576))⟩, ⟨some 8, none, .mv (.t 7)⟩, ⟨some 9, (some (8, false)), .mv (.t 1)⟩, ⟨some 10, (some (8, false)), .len (.t 9)⟩, ⟨some 11, (some (8, false)), .mv (.t 0)⟩, ⟨some 12, (some (8, false)), .len (.t 11)⟩, ⟨some 13, (some (8, false)), .bin .sub (.k (.int .i64 1048576)) (.t 12)⟩, ⟨some 14, (some (8, false)), .bin .gtr (.t 10) (.t 13)⟩, ⟨some 15, none, .pick (.t 8) (.k (.bool true)) (.t 14)⟩, ⟨some 4, none, .mv (.t 15)⟩] [4])
 .ret))
def F1 : AFunc := ⟨2, [.t 4], [], F1_c⟩
/-- (*spec.l1Cur).next -/
def F2_t0 : AC :=
 (.seq (.reg false [⟨some 25, none, .mv (.t 0)⟩, ⟨some 26, none, .nilc (.t 25)⟩, ⟨some 27, none, .faddr 1 (.t 26)⟩, ⟨some 28, none, .load none (.t 27)⟩, ⟨some 29, none, .bin .add (.t 28) (.k (.int .i64 1))⟩, ⟨some 30, none, .nilc (.t 25)⟩, ⟨some 31, none, .faddr 1 (.t 30)⟩, ⟨none, none, .store 1 (.t 31) (.t 29)⟩] [0, 3])
 (.seq (.reg false [⟨some 32, none, .mv (.t 0)⟩, ⟨some 33, none, .mv (.t 0)⟩, ⟨some 34, none, .nilc (.t 33)⟩, ⟨some 35, none, .faddr 2 (.t 34)⟩, ⟨some 36, none, .load none (.t 35)⟩, ⟨some 37, none, .bin .mul (.t 36) (.k (.w 6364136223846793005#64))⟩, ⟨some 38, none, .mv (.t 3)⟩, ⟨some 39, none, .conv .u64 (.t 38)⟩, ⟨some 40, none, .bin .add (.t 37) (.t 39)⟩, ⟨some 41, none, .bin .add (.t 40) (.k (.w 1442695040888963407#64))⟩, ⟨some 42, none, .nilc (.t 32)⟩, ⟨some 43, none, .faddr 2 (.t 42)⟩, ⟨none, none, .store 1 (.t 43) (.t 41)⟩] [0, 3])
 (.seq (.seq (.reg true [⟨some 44, none, .mv (.t 0)⟩, ⟨some 45, none, .nilc (.t 44)⟩, ⟨some 46, none, .faddr 1 (.t 45)⟩, ⟨some 47, none, .load none (.t 46)⟩, ⟨some 48, none, .mv (.t 0)⟩, ⟨some 49, none, .nilc (.t 48)⟩, ⟨some 50, none, .faddr 0 (.t 49)⟩, ⟨some 51, none, .load none (.t 50)⟩, ⟨some 52, none, .len (.t 51)⟩, ⟨some 53, none, .bin .leq (.t 47) (.t 52)⟩] [0, 3, 53])
 (.cond (.t 53) (.seq (.reg false [⟨some 54, none, .mv (.t 3)⟩, ⟨some 2, none, .mv (.t 54)⟩] [2])
  .ret) .skip))
 (.seq (.reg false [⟨some 55, none, .mv (.t 0)⟩, ⟨some 56, none, .nilc (.t 55)⟩, ⟨some 57, none, .faddr 2 (.t 56)⟩, ⟨some 58, none, .load none (.t 57)⟩, ⟨some 59, none, .bin .shr (.t 58) (.k (.w 40#64))⟩, ⟨some 60, none, .bin .and (.t 59) (.k (.w 255#64))⟩, ⟨some 61, none, .conv .i64 (.t 60)⟩, ⟨some 2, none, .mv (.t 61)⟩] [2])
 .ret))))
def F2_c : AC :=
 (.seq (.reg false [⟨some 2, none, .mv (.k (.int .i64 0))⟩] [0])
 (.seq (.reg false [⟨some 3, none, .mv (.k (.int .i64 0))⟩] [0, 3])
 (.seq (.seq (.reg true [⟨some 4, none, .mv (.t 0)⟩, ⟨some 5, none, .nilc (.t 4)⟩, ⟨some 6, none, .faddr 1 (.t 5)⟩, ⟨some 7, none, .load none (.t 6)⟩, ⟨some 8, none, .mv (.t 0)⟩, ⟨some 9, none, .nilc (.t 8)⟩, ⟨some 10, none, .faddr 0 (.t 9)⟩, ⟨some 11, none, .load none (.t 10)⟩, ⟨some 12, none, .len (.t 11)⟩, ⟨some 13, none, .bin .lss (.t 7) (.t 12)⟩] [0, 3, 13])
 (.cond (.t 13) (.reg true [⟨some 14, none, .mv (.t 0)⟩, ⟨some 15, none, .nilc (.t 14)⟩, ⟨some 16, none, .faddr 0 (.t 15)⟩, ⟨some 17, none, .load none (.t 16)⟩, ⟨some 18, none, .mv (.t 0)⟩, ⟨some 19, none, .nilc (.t 18)⟩, ⟨some 20, none, .faddr 1 (.t 19)⟩, ⟨some 21, none, .load none (.t 20)⟩, ⟨some 22, none, .iaddr 1 (.t 17) (.t 21)⟩, ⟨some 23, none, .load none (.t 22)⟩, ⟨some 24, none, .conv .i64 (.t 23)⟩, ⟨some 3, none, .mv (.t 24)⟩] [0, 3]) .skip))
 (.kp [(0, .keep), (3, .keep)] F2_t0))))
def F2 : AFunc := ⟨1, [.t 2], [], F2_c⟩
/-- (*spec.l1Cur).pick -/
def F3_t0 : AC :=
 (.seq (.reg false [⟨some 17, none, .mv (.t 5)⟩, ⟨some 18, none, .mv (.t 1)⟩, ⟨some 19, none, .bin .rem (.t 17) (.t 18)⟩, ⟨some 4, none, .mv (.t 19)⟩] [4])
 .ret)
def F3_c : AC :=
 (.seq (.reg false [⟨some 4, none, .mv (.k (.int .i64 0))⟩] [0, 1])
 (.seq (.seq (.reg false [⟨some 6, none, .mv (.t 1)⟩, ⟨some 7, none, .bin .leq (.t 6) (.k (.int .i64 1))⟩] [0, 1, 7])
 (.cond (.t 7) (.seq (.reg false [⟨some 4, none, .mv (.k (.int .i64 0))⟩] [4])
  .ret) .skip))
 (.seq (.reg false [⟨some 8, none, .mv (.t 0)⟩, ⟨some 9, none, .call false [] (.f 2) [.t 8]⟩, ⟨some 5, none, .mv (.t 9)⟩] [0, 1, 5])
 (.seq (.seq (.reg false [⟨some 10, none, .mv (.t 1)⟩, ⟨some 11, none, .bin .gtr (.t 10) (.k (.int .i64 200))⟩] [0, 1, 5, 11])
 (.cond (.t 11) (.reg false [⟨some 12, none, .mv (.t 5)⟩, ⟨some 13, none, .bin .mul (.t 12) (.k (.int .i64 256))⟩, ⟨some 14, none, .mv (.t 0)⟩, ⟨some 15, none, .call false [] (.f 2) [.t 14]⟩, ⟨some 16, none, .bin .add (.t 13) (.t 15)⟩, ⟨some 5, none, .mv (.t 16)⟩] [1, 5]) .skip))
 (.kp [(1, .keep), (5, .keep)] F3_t0)))))
def F3 : AFunc := ⟨2, [.t 4], [], F3_c⟩
/-- (*spec.l1Cur).among -/
def F4_c : AC :=
 (.seq (.reg false [⟨some 4, none, .mv (.k (.int .i64 0))⟩] [0, 1])
 (.seq (.reg false [⟨some 5, none, .mv (.t 1)⟩, ⟨some 6, none, .mv (.t 0)⟩, ⟨some 7, none, .mv (.t 1)⟩, ⟨some 8, none, .len (.t 7)⟩, ⟨some 9, none, .call false [] (.f 3) [.t 6, .t 8]⟩, ⟨some 10, none, .iaddr 1 (.t 5) (.t 9)⟩, ⟨some 11, none, .load none (.t 10)⟩, ⟨some 4, none, .mv (.t 11)⟩] [4])
 .ret))
def F4 : AFunc := ⟨2, [.t 4], [], F4_c⟩
/-- (*spec.l1Cur).one -/
def F5_c : AC :=
 (.seq (.reg false [⟨some 4, none, .mv (.k (.bool false))⟩] [0, 1])
 (.seq (.reg false [⟨some 5, none, .mv (.t 0)⟩, ⟨some 6, none, .mv (.t 1)⟩, ⟨some 7, none, .call false [] (.f 3) [.t 5, .t 6]⟩, ⟨some 8, none, .bin .eql (.t 7) (.k (.int .i64 0))⟩, ⟨some 4, none, .mv (.t 8)⟩] [4])
 .ret))
def F5 : AFunc := ⟨2, [.t 4], [], F5_c⟩
/-- spec.l1Cut -/
def F6_b0 : AC := (.seq (.seq (.reg false [⟨some 7, none, .mv (.t 6)⟩, ⟨some 8, none, .mv (.t 0)⟩, ⟨some 9, none, .bin .lss (.t 7) (.t 8)⟩] [0, 1, 5, 6, 9])
   (.cond (.t 9) .skip (.exit 0)))
   (.seq (.block 1 (.reg false [⟨some 12, none, .mv (.t 5)⟩, ⟨some 13, none, .mv (.t 1)⟩, ⟨some 14, none, .mv (.t 6)⟩, ⟨some 15, none, .conv .u64 (.t 14)⟩, ⟨some 16, none, .bin .shl (.k (.w 1#64)) (.t 15)⟩, ⟨some 17, none, .bin .and (.t 13) (.t 16)⟩, ⟨some 18, none, .bin .or (.t 12) (.t 17)⟩, ⟨some 5, none, .mv (.t 18)⟩] [0, 1, 5, 6]))
   (.reg false [⟨some 10, none, .mv (.t 6)⟩, ⟨some 11, none, .bin .add (.t 10) (.k (.int .i64 1))⟩, ⟨some 6, none, .mv (.t 11)⟩] [0, 1, 5, 6])))
def F6_l0 : AC := F6_b0
@[simp] theorem u6_0 (T : Nat → Option AFunc) (X : Orc) (F : AFunc) (m : Nat) (K : List AT) (e : Env) (st : St) : go T X F m (.code F6_l0 :: K) e st = go T X F m (.code F6_b0 :: K) e st := rfl
def F6_t0 : AC :=
 (.seq (.reg false [⟨some 19, none, .mv (.t 5)⟩, ⟨some 4, none, .mv (.t 19)⟩] [4])
 .ret)
def F6_c : AC :=
 (.seq (.reg false [⟨some 4, none, .mv (.k (.w 0#64))⟩] [0, 1])
 (.seq (.reg false [⟨some 5, none, .mv (.k (.w 0#64))⟩] [0, 1, 5])
 (.seq (.seq (.reg false [⟨some 6, none, .mv (.k (.int .i64 0))⟩] [0, 1, 5, 6])
 (.block 0 (.loop [(0, .keep), (1, .keep), (5, .keep), (6, .keep)] F6_l0)))
 (.kp [(5, .keep)] F6_t0))))
def F6 : AFunc := ⟨2, [.t 4], [], F6_c⟩
/-- (*spec.l1Cur).number -/
def F7_t0 : AC :=
 (.seq (.reg false [⟨some 64, none, .mv (.t 9)⟩, ⟨some 65, none, .mv (.t 10)⟩, ⟨some 66, none, .build [.d (.int .i64 0), .d (.w 0#64)] [(0, 1, .t 65)]⟩, ⟨some 67, none, .bslice 2 [(.int .i64 0), (.w 0#64)] 1 [(0, .t 66)]⟩, ⟨some 68, none, .append 2 (.t 64) (.t 67)⟩, ⟨some 8, none, .mv (.t 68)⟩] [8])
 .ret)
def F7_c : AC :=
 (.seq (.reg false [⟨some 8, none, .mv (.k .nil)⟩] [0, 1, 2, 3])
 (.seq (.seq (.reg false [⟨some 11, none, .mv (.t 3)⟩, ⟨some 12, none, .bin .eql (.t 11) (.k (.int .i64 0))⟩, ⟨some 13, none, .mv (.t 12)⟩, ⟨some 14, (some (13, false)), .mv (.t 0)⟩, ⟨some 15, (some (13, false)), .call false [] (.f 5) [.t 14, .k (.int .i64 4)]⟩, ⟨some 16, none, .pick (.t 13) (.k (.bool true)) (.t 15)⟩] [0, 1, 2, 3, 16])
 (.cond (.t 16) (.seq (.seq (.reg false [⟨some 17, none, .mv (.t 0)⟩, ⟨some 18, none, .call false [] (.f 5) [.t 17, .k (.int .i64 2)]⟩] [0, 1, 2, 18])
  (.cond (.t 18) (.seq (.reg false [⟨some 19, none, .mv (.t 1)⟩, ⟨some 20, none, .mv (.t 0)⟩, ⟨some 21, none, .call false [] (.f 3) [.t 20, .k (.int .i64 9)]⟩, ⟨some 22, none, .conv .u64 (.t 21)⟩, ⟨some 23, none, .pcall (.f 6) [.t 19, .t 22]⟩, ⟨some 24, none, .build [.d (.int .i64 0), .d (.w 0#64)] [(0, 1, .k (.int .i64 1)), (1, 1, .t 23)]⟩, ⟨some 25, none, .bslice 2 [(.int .i64 0), (.w 0#64)] 1 [(0, .t 24)]⟩, ⟨some 8, none, .mv (.t 25)⟩] [8])
   .ret) .skip))
  (.seq (.reg false [⟨some 26, none, .mv (.t 0)⟩, ⟨some 27, none, .mv (.t 2)⟩, ⟨some 28, none, .call false [] (.f 3) [.t 26, .t 27]⟩, ⟨some 29, none, .conv .u64 (.t 28)⟩, ⟨some 30, none, .build [.d (.int .i64 0), .d (.w 0#64)] [(0, 1, .k (.int .i64 2)), (1, 1, .t 29)]⟩, ⟨some 31, none, .bslice 2 [(.int .i64 0), (.w 0#64)] 1 [(0, .t 30)]⟩, ⟨some 8, none, .mv (.t 31)⟩] [8])
  .ret)) .skip))
 (.seq (.seq (.reg false [⟨some 32, none, .mv (.t 0)⟩, ⟨some 33, none, .call false [] (.f 5) [.t 32, .k (.int .i64 7)]⟩] [0, 1, 2, 3, 33])
 (.cond (.t 33) (.seq (.reg false [⟨some 34, none, .mv (.t 0)⟩, ⟨some 35, none, .mv (.t 1)⟩, ⟨some 36, none, .mv (.t 2)⟩, ⟨some 37, none, .mv (.t 3)⟩, ⟨some 38, none, .bin .sub (.t 37) (.k (.int .i64 1))⟩, ⟨some 39, none, .call false [] (.f 7) [.t 34, .t 35, .t 36, .t 38]⟩, ⟨some 40, none, .build [.d (.int .i64 0), .d (.w 0#64)] [(0, 1, .k (.int .i64 13))]⟩, ⟨some 41, none, .bslice 2 [(.int .i64 0), (.w 0#64)] 1 [(0, .t 40)]⟩, ⟨some 42, none, .append 2 (.t 39) (.t 41)⟩, ⟨some 8, none, .mv (.t 42)⟩] [8])
  .ret) .skip))
 (.seq (.reg false [⟨some 43, none, .mv (.t 0)⟩, ⟨some 44, none, .mv (.t 1)⟩, ⟨some 45, none, .mv (.t 2)⟩, ⟨some 46, none, .mv (.t 3)⟩, ⟨some 47, none, .bin .sub (.t 46) (.k (.int .i64 1))⟩, ⟨some 48, none, .call false [] (.f 7) [.t 43, .t 44, .t 45, .t 47]⟩, ⟨some 49, none, .mv (.t 0)⟩, ⟨some 50, none, .mv (.t 1)⟩, ⟨some 51, none, .mv (.t 2)⟩, ⟨some 52, none, .mv (.t 3)⟩, ⟨some 53, none, .bin .sub (.t 52) (.k (.int .i64 1))⟩, ⟨some 54, none, .call false [] (.f 7) [.t 49, .t 50, .t 51, .t 53]⟩, ⟨some 55, none, .append 2 (.t 48) (.t 54)⟩, ⟨some 9, none, .mv (.t 55)⟩] [0, 9])
 (.seq (.reg false [⟨some 56, none, .mv (.t 0)⟩, ⟨some 57, none, .bslice 1 [(.int .i64 0)] 9 [(0, .k (.int .i64 3)), (1, .k (.int .i64 3)), (2, .k (.int .i64 3)), (3, .k (.int .i64 4)), (4, .k (.int .i64 4)), (5, .k (.int .i64 5)), (6, .k (.int .i64 8)), (7, .k (.int .i64 9)), (8, .k (.int .i64 10))]⟩, ⟨some 58, none, .call false [] (.f 4) [.t 56, .t 57]⟩, ⟨some 10, none, .mv (.t 58)⟩] [0, 9, 10])
 (.seq (.seq (.reg false [⟨some 59, none, .mv (.t 0)⟩, ⟨some 60, none, .call false [] (.f 5) [.t 59, .k (.int .i64 6)]⟩] [0, 9, 10, 60])
 (.cond (.t 60) (.reg false [⟨some 61, none, .mv (.t 0)⟩, ⟨some 62, none, .bslice 1 [(.int .i64 0)] 4 [(0, .k (.int .i64 6)), (1, .k (.int .i64 7)), (2, .k (.int .i64 11)), (3, .k (.int .i64 12))]⟩, ⟨some 63, none, .call false [] (.f 4) [.t 61, .t 62]⟩, ⟨some 10, none, .mv (.t 63)⟩] [9, 10]) .skip))
 (.kp [(9, .keep), (10, .keep)] F7_t0)))))))
def F7 : AFunc := ⟨4, [.t 8], [[.ow 2]], F7_c⟩
/-- (*spec.l1Cur).asked -/
def F8_c : AC :=
 (.seq (.reg false [⟨some 8, none, .mv (.k .nil)⟩] [0, 1, 2, 3])
 (.seq (.seq (.reg false [⟨some 11, none, .mv (.t 0)⟩, ⟨some 12, none, .call false [] (.f 5) [.t 11, .k (.int .i64 20)]⟩] [0, 1, 2, 3, 12])
 (.cond (.t 12) (.seq (.reg false [⟨some 13, none, .mv (.t 0)⟩, ⟨some 14, none, .call false [] (.f 3) [.t 13, .k (.int .i64 2)]⟩, ⟨some 15, none, .conv .u64 (.t 14)⟩, ⟨some 16, none, .build [.d (.int .i64 0), .d (.w 0#64)] [(0, 1, .k (.int .i64 20)), (1, 1, .t 15)]⟩, ⟨some 17, none, .bslice 2 [(.int .i64 0), (.w 0#64)] 1 [(0, .t 16)]⟩, ⟨some 8, none, .mv (.t 17)⟩] [8])
  .ret) .skip))
 (.seq (.seq (.reg false [⟨some 18, none, .mv (.t 3)⟩, ⟨some 19, none, .bin .gtr (.t 18) (.k (.int .i64 0))⟩, ⟨some 20, none, .mv (.t 19)⟩, ⟨some 21, (some (20, true)), .mv (.t 0)⟩, ⟨some 22, (some (20, true)), .call false [] (.f 5) [.t 21, .k (.int .i64 4)]⟩, ⟨some 23, none, .pick (.t 20) (.t 22) (.k (.bool false))⟩] [0, 1, 2, 3, 23])
 (.cond (.t 23) (.seq (.reg false [⟨some 24, none, .mv (.t 0)⟩, ⟨some 25, none, .mv (.t 1)⟩, ⟨some 26, none, .mv (.t 2)⟩, ⟨some 27, none, .mv (.t 3)⟩, ⟨some 28, none, .bin .sub (.t 27) (.k (.int .i64 1))⟩, ⟨some 29, none, .call false [] (.f 8) [.t 24, .t 25, .t 26, .t 28]⟩, ⟨some 30, none, .build [.d (.int .i64 0), .d (.w 0#64)] [(0, 1, .k (.int .i64 19))]⟩, ⟨some 31, none, .bslice 2 [(.int .i64 0), (.w 0#64)] 1 [(0, .t 30)]⟩, ⟨some 32, none, .append 2 (.t 29) (.t 31)⟩, ⟨some 8, none, .mv (.t 32)⟩] [8])
  .ret) .skip))
 (.seq (.seq (.reg false [⟨some 33, none, .mv (.t 3)⟩, ⟨some 34, none, .bin .gtr (.t 33) (.k (.int .i64 0))⟩, ⟨some 35, none, .mv (.t 34)⟩, ⟨some 36, (some (35, true)), .mv (.t 0)⟩, ⟨some 37, (some (35, true)), .call false [] (.f 5) [.t 36, .k (.int .i64 2)]⟩, ⟨some 38, none, .pick (.t 35) (.t 37) (.k (.bool false))⟩] [0, 1, 2, 3, 38])
 (.cond (.t 38) (.seq (.reg false [⟨some 39, none, .mv (.t 0)⟩, ⟨some 40, none, .mv (.t 1)⟩, ⟨some 41, none, .mv (.t 2)⟩, ⟨some 42, none, .mv (.t 3)⟩, ⟨some 43, none, .bin .sub (.t 42) (.k (.int .i64 1))⟩, ⟨some 44, none, .call false [] (.f 8) [.t 39, .t 40, .t 41, .t 43]⟩, ⟨some 45, none, .mv (.t 0)⟩, ⟨some 46, none, .mv (.t 1)⟩, ⟨some 47, none, .mv (.t 2)⟩, ⟨some 48, none, .mv (.t 3)⟩, ⟨some 49, none, .bin .sub (.t 48) (.k (.int .i64 1))⟩, ⟨some 50, none, .call false [] (.f 8) [.t 45, .t 46, .t 47, .t 49]⟩, ⟨some 51, none, .append 2 (.t 44) (.t 50)⟩, ⟨some 9, none, .mv (.t 51)⟩] [0, 9])
  (.seq (.reg false [⟨some 52, none, .mv (.t 9)⟩, ⟨some 53, none, .mv (.t 0)⟩, ⟨some 54, none, .bslice 1 [(.int .i64 0)] 2 [(0, .k (.int .i64 17)), (1, .k (.int .i64 18))]⟩, ⟨some 55, none, .call false [] (.f 4) [.t 53, .t 54]⟩, ⟨some 56, none, .build [.d (.int .i64 0), .d (.w 0#64)] [(0, 1, .t 55)]⟩, ⟨some 57, none, .bslice 2 [(.int .i64 0), (.w 0#64)] 1 [(0, .t 56)]⟩, ⟨some 58, none, .append 2 (.t 52) (.t 57)⟩, ⟨some 8, none, .mv (.t 58)⟩] [8])
  .ret)) .skip))
 (.seq (.reg false [⟨some 59, none, .mv (.t 0)⟩, ⟨some 60, none, .mv (.t 1)⟩, ⟨some 61, none, .mv (.t 2)⟩, ⟨some 62, none, .call false [] (.f 7) [.t 59, .t 60, .t 61, .k (.int .i64 1)]⟩, ⟨some 63, none, .mv (.t 0)⟩, ⟨some 64, none, .mv (.t 1)⟩, ⟨some 65, none, .mv (.t 2)⟩, ⟨some 66, none, .mv (.t 0)⟩, ⟨some 67, none, .call false [] (.f 3) [.t 66, .k (.int .i64 2)]⟩, ⟨some 68, none, .call false [] (.f 7) [.t 63, .t 64, .t 65, .t 67]⟩, ⟨some 69, none, .append 2 (.t 62) (.t 68)⟩, ⟨some 10, none, .mv (.t 69)⟩] [0, 10])
 (.seq (.reg false [⟨some 70, none, .mv (.t 10)⟩, ⟨some 71, none, .mv (.t 0)⟩, ⟨some 72, none, .bslice 1 [(.int .i64 0)] 4 [(0, .k (.int .i64 14)), (1, .k (.int .i64 15)), (2, .k (.int .i64 15)), (3, .k (.int .i64 16))]⟩, ⟨some 73, none, .call false [] (.f 4) [.t 71, .t 72]⟩, ⟨some 74, none, .build [.d (.int .i64 0), .d (.w 0#64)] [(0, 1, .t 73)]⟩, ⟨some 75, none, .bslice 2 [(.int .i64 0), (.w 0#64)] 1 [(0, .t 74)]⟩, ⟨some 76, none, .append 2 (.t 70) (.t 75)⟩, ⟨some 8, none, .mv (.t 76)⟩] [8])
 .ret))))))
def F8 : AFunc := ⟨4, [.t 8], [[.ow 2]], F8_c⟩
/-- (*spec.l1Cur).term -/
def F9_t0 : AC :=
 (.seq (.reg false [⟨some 53, none, .mv (.t 5)⟩, ⟨some 54, none, .mv (.t 6)⟩, ⟨some 55, none, .mv (.t 7)⟩, ⟨some 2, none, .mv (.t 53)⟩, ⟨some 3, none, .mv (.t 54)⟩, ⟨some 4, none, .mv (.t 55)⟩] [2, 3, 4])
 .ret)
def F9_t1 : AC :=
 (.seq (.seq (.reg false [⟨some 24, none, .mv (.t 0)⟩, ⟨some 25, none, .call false [] (.f 3) [.t 24, .k (.int .i64 40)]⟩] [0, 5, 6, 7, 25])
 (.block 0 (.seq (.reg false [⟨some 27, none, .bin .eql (.t 25) (.k (.int .i64 0))⟩, ⟨some 26, none, .mv (.t 27)⟩] [0, 5, 6, 7, 25, 26])
  (.cond (.t 26) (.reg false [⟨some 28, none, .mv (.t 7)⟩, ⟨some 29, none, .iaddr 2 (.t 28) (.k (.int .i64 0))⟩, ⟨some 30, none, .faddr 1 (.t 29)⟩, ⟨none, none, .store 1 (.t 30) (.k (.w 9223372036854775808#64))⟩] [5, 6, 7]) (.seq (.reg false [⟨some 32, none, .bin .eql (.t 25) (.k (.int .i64 1))⟩, ⟨some 31, none, .mv (.t 32)⟩] [0, 5, 6, 7, 25, 31])
   (.cond (.t 31) (.reg false [⟨some 33, none, .mv (.t 7)⟩, ⟨some 34, none, .mv (.t 7)⟩, ⟨some 35, none, .len (.t 34)⟩, ⟨some 36, none, .bin .sub (.t 35) (.k (.int .i64 1))⟩, ⟨some 37, none, .slice 2 (.t 33) none (some (.t 36))⟩, ⟨some 7, none, .mv (.t 37)⟩] [5, 6, 7]) (.seq (.reg false [⟨some 39, none, .bin .eql (.t 25) (.k (.int .i64 2))⟩, ⟨some 38, none, .mv (.t 39)⟩] [0, 5, 6, 7, 25, 38])
    (.cond (.t 38) (.reg false [⟨some 40, none, .mv (.t 0)⟩, ⟨some 41, none, .bslice 1 [(.int .i64 0)] 3 [(0, .k (.int .i64 0)), (1, .k (.int .i64 4)), (2, .k (.int .i64 5))]⟩, ⟨some 42, none, .call false [] (.f 4) [.t 40, .t 41]⟩, ⟨some 6, none, .mv (.t 42)⟩] [5, 6, 7]) (.seq (.reg false [⟨some 44, none, .bin .eql (.t 25) (.k (.int .i64 3))⟩, ⟨some 43, none, .mv (.t 44)⟩] [0, 5, 6, 7, 43])
     (.cond (.t 43) (.reg false [⟨some 45, none, .mv (.t 7)⟩, ⟨some 46, none, .mv (.t 7)⟩, ⟨some 47, none, .len (.t 46)⟩, ⟨some 48, none, .bin .sub (.t 47) (.k (.int .i64 1))⟩, ⟨some 49, none, .mv (.t 0)⟩, ⟨some 50, none, .call false [] (.f 3) [.t 49, .k (.int .i64 23)]⟩, ⟨some 51, none, .iaddr 2 (.t 45) (.t 48)⟩, ⟨some 52, none, .faddr 0 (.t 51)⟩, ⟨none, none, .store 1 (.t 52) (.t 50)⟩] [5, 6, 7]) .skip))))))))))
 (.kp [(5, .keep), (6, .keep), (7, .keep)] F9_t0))
def F9_c : AC :=
 (.seq (.reg false [⟨some 2, none, .mv (.k (.int .i64 0))⟩, ⟨some 3, none, .mv (.k (.int .i64 0))⟩, ⟨some 4, none, .mv (.k .nil)⟩] [0])
 (.seq (.reg false [⟨some 8, none, .mv (.t 0)⟩, ⟨some 9, none, .bslice 1 [(.int .i64 0)] 6 [(0, .k (.int .i64 1)), (1, .k (.int .i64 2)), (2, .k (.int .i64 3)), (3, .k (.int .i64 4)), (4, .k (.int .i64 8)), (5, .k (.int .i64 64))]⟩, ⟨some 10, none, .call false [] (.f 4) [.t 8, .t 9]⟩, ⟨some 5, none, .mv (.t 10)⟩] [0, 5])
 (.seq (.reg false [⟨some 11, none, .mv (.t 0)⟩, ⟨some 12, none, .call false [] (.f 3) [.t 11, .k (.int .i64 3)]⟩, ⟨some 13, none, .bin .add (.k (.int .i64 1)) (.t 12)⟩, ⟨some 6, none, .mv (.t 13)⟩] [0, 5, 6])
 (.seq (.reg false [⟨some 14, none, .mv (.t 0)⟩, ⟨some 15, none, .mv (.t 5)⟩, ⟨some 16, none, .mv (.t 6)⟩, ⟨some 17, none, .call false [] (.f 8) [.t 14, .t 15, .t 16, .k (.int .i64 2)]⟩, ⟨some 7, none, .mv (.t 17)⟩] [0, 5, 6, 7])
 (.seq (.seq (.reg false [⟨some 18, none, .mv (.t 0)⟩, ⟨some 19, none, .call false [] (.f 5) [.t 18, .k (.int .i64 3)]⟩] [0, 5, 6, 7, 19])
 (.cond (.t 19) (.reg false [⟨some 20, none, .mv (.t 0)⟩, ⟨some 21, none, .mv (.t 5)⟩, ⟨some 22, none, .mv (.t 6)⟩, ⟨some 23, none, .call false [] (.f 7) [.t 20, .t 21, .t 22, .k (.int .i64 3)]⟩, ⟨some 7, none, .mv (.t 23)⟩] [0, 5, 6, 7]) .skip))
 (.kp [(0, .keep), (5, .keep), (6, .keep), (7, .keep)] F9_t1))))))
def F9 : AFunc := ⟨1, [.t 2, .t 3, .t 4], [], F9_c⟩
/-- (*spec.l1Cur).long -/
def F10_b0 : AC := (.seq (.seq (.reg false [⟨some 5, none, .mv (.t 4)⟩, ⟨some 6, none, .bin .lss (.t 5) (.k (.int .i64 8))⟩] [0, 3, 4, 6])
   (.cond (.t 6) .skip (.exit 0)))
   (.seq (.block 1 (.reg false [⟨some 9, none, .mv (.t 3)⟩, ⟨some 10, none, .bin .shl (.t 9) (.k (.w 8#64))⟩, ⟨some 11, none, .mv (.t 0)⟩, ⟨some 12, none, .call false [] (.f 2) [.t 11]⟩, ⟨some 13, none, .conv .u64 (.t 12)⟩, ⟨some 14, none, .bin .or (.t 10) (.t 13)⟩, ⟨some 3, none, .mv (.t 14)⟩] [0, 3, 4]))
   (.reg false [⟨some 7, none, .mv (.t 4)⟩, ⟨some 8, none, .bin .add (.t 7) (.k (.int .i64 1))⟩, ⟨some 4, none, .mv (.t 8)⟩] [0, 3, 4])))
def F10_l0 : AC := F10_b0
@[simp] theorem u10_0 (T : Nat → Option AFunc) (X : Orc) (F : AFunc) (m : Nat) (K : List AT) (e : Env) (st : St) : go T X F m (.code F10_l0 :: K) e st = go T X F m (.code F10_b0 :: K) e st := rfl
def F10_t0 : AC :=
 (.seq (.reg false [⟨some 15, none, .mv (.t 3)⟩, ⟨some 2, none, .mv (.t 15)⟩] [2])
 .ret)
def F10_c : AC :=
 (.seq (.reg false [⟨some 2, none, .mv (.k (.w 0#64))⟩] [0])
 (.seq (.reg false [⟨some 3, none, .mv (.k (.w 0#64))⟩] [0, 3])
 (.seq (.seq (.reg false [⟨some 4, none, .mv (.k (.int .i64 0))⟩] [0, 3, 4])
 (.block 0 (.loop [(0, .keep), (3, .keep), (4, .keep)] F10_l0)))
 (.kp [(3, .keep)] F10_t0))))
def F10 : AFunc := ⟨1, [.t 2], [], F10_c⟩
/-- (*spec.l1Cur).word -/
def F11_t0 : AC :=
 (.seq (.seq (.reg false [⟨some 27, none, .mv (.t 0)⟩, ⟨some 28, none, .call false [] (.f 5) [.t 27, .k (.int .i64 30)]⟩] [1, 5, 28])
 (.cond (.t 28) (.seq (.reg false [⟨some 29, none, .mv (.t 5)⟩, ⟨some 4, none, .mv (.t 29)⟩] [4])
  .ret) .skip))
 (.seq (.reg false [⟨some 30, none, .mv (.t 1)⟩, ⟨some 31, none, .mv (.t 5)⟩, ⟨some 32, none, .pcall (.f 6) [.t 30, .t 31]⟩, ⟨some 4, none, .mv (.t 32)⟩] [4])
 .ret))
def F11_c : AC :=
 (.seq (.reg false [⟨some 4, none, .mv (.k (.w 0#64))⟩] [0, 1])
 (.seq (.reg false [⟨some 6, none, .mv (.t 0)⟩, ⟨some 7, none, .call false [] (.f 3) [.t 6, .k (.int .i64 5)]⟩, ⟨some 8, none, .conv .u64 (.t 7)⟩, ⟨some 5, none, .mv (.t 8)⟩] [0, 1, 5])
 (.seq (.seq (.reg false [⟨some 9, none, .mv (.t 0)⟩, ⟨some 10, none, .call false [] (.f 3) [.t 9, .k (.int .i64 5)]⟩] [0, 1, 5, 10])
 (.block 0 (.seq (.reg false [⟨some 12, none, .bin .eql (.t 10) (.k (.int .i64 0))⟩, ⟨some 11, none, .mv (.t 12)⟩] [0, 1, 5, 10, 11])
  (.cond (.t 11) (.reg false [⟨some 13, none, .mv (.t 0)⟩, ⟨some 14, none, .call false [] (.f 10) [.t 13]⟩, ⟨some 5, none, .mv (.t 14)⟩] [0, 1, 5]) (.seq (.reg false [⟨some 16, none, .bin .eql (.t 10) (.k (.int .i64 1))⟩, ⟨some 15, none, .mv (.t 16)⟩] [0, 1, 5, 10, 15])
   (.cond (.t 15) (.reg false [⟨some 17, none, .mv (.t 0)⟩, ⟨some 18, none, .call false [] (.f 3) [.t 17, .k (.int .i64 3)]⟩, ⟨some 19, none, .conv .u64 (.t 18)⟩, ⟨some 20, none, .bin .sub (.k (.w 18446744073709551615#64)) (.t 19)⟩, ⟨some 5, none, .mv (.t 20)⟩] [0, 1, 5]) (.seq (.reg false [⟨some 22, none, .bin .eql (.t 10) (.k (.int .i64 2))⟩, ⟨some 21, none, .mv (.t 22)⟩] [0, 1, 5, 21])
    (.cond (.t 21) (.reg false [⟨some 23, none, .mv (.t 0)⟩, ⟨some 24, none, .call false [] (.f 3) [.t 23, .k (.int .i64 64)]⟩, ⟨some 25, none, .conv .u64 (.t 24)⟩, ⟨some 26, none, .bin .shl (.k (.w 1#64)) (.t 25)⟩, ⟨some 5, none, .mv (.t 26)⟩] [0, 1, 5]) .skip))))))))
 (.kp [(0, .keep), (1, .keep), (5, .keep)] F11_t0))))
def F11 : AFunc := ⟨2, [.t 4], [], F11_c⟩
/-- (*spec.l1Cur).span -/
def F12_t0 : AC :=
 (.seq (.reg false [⟨some 36, none, .load (some 2) (.t 5)⟩, ⟨none, none, .store 2 (.t 4) (.t 36)⟩] [4])
 .ret)
def F12_t1 : AC :=
 (.seq (.seq (.reg false [⟨some 19, none, .faddr 0 (.t 5)⟩, ⟨some 20, none, .load none (.t 19)⟩, ⟨some 21, none, .faddr 1 (.t 5)⟩, ⟨some 22, none, .load none (.t 21)⟩, ⟨some 23, none, .bin .gtr (.t 20) (.t 22)⟩, ⟨some 24, none, .mv (.t 23)⟩, ⟨some 25, (some (24, true)), .mv (.t 0)⟩, ⟨some 26, (some (24, true)), .call false [] (.f 5) [.t 25, .k (.int .i64 30)]⟩, ⟨some 27, (some (24, true)), .un .not (.t 26)⟩, ⟨some 28, none, .pick (.t 24) (.t 27) (.k (.bool false))⟩] [4, 5, 28])
 (.cond (.t 28) (.seq (.reg false [⟨some 29, none, .faddr 1 (.t 5)⟩, ⟨some 30, none, .load none (.t 29)⟩, ⟨some 6, none, .mv (.t 30)⟩] [4, 5, 6])
  (.seq (.reg false [⟨some 31, none, .faddr 0 (.t 5)⟩, ⟨some 32, none, .load none (.t 31)⟩, ⟨some 33, none, .faddr 1 (.t 5)⟩, ⟨none, none, .store 1 (.t 33) (.t 32)⟩] [4, 5, 6])
  (.reg false [⟨some 34, none, .mv (.t 6)⟩, ⟨some 35, none, .faddr 0 (.t 5)⟩, ⟨none, none, .store 1 (.t 35) (.t 34)⟩] [4, 5]))) .skip))
 (.kp [(4, .keep), (5, .keep)] F12_t0))
def F12_c : AC :=
 (.seq (.reg false [⟨some 4, none, .alloc [.d (.w 0#64), .d (.w 0#64)]⟩] [0, 1, 4])
 (.seq (.reg false [⟨some 7, none, .mv (.t 0)⟩, ⟨some 8, none, .mv (.t 1)⟩, ⟨some 9, none, .call false [] (.f 11) [.t 7, .t 8]⟩, ⟨some 10, none, .mv (.t 0)⟩, ⟨some 11, none, .mv (.t 1)⟩, ⟨some 12, none, .call false [] (.f 11) [.t 10, .t 11]⟩, ⟨some 13, none, .build [.d (.w 0#64), .d (.w 0#64)] [(0, 1, .t 9), (1, 1, .t 12)]⟩, ⟨some 5, none, .alloc [.d (.w 0#64), .d (.w 0#64)]⟩, ⟨none, none, .store 2 (.t 5) (.t 13)⟩] [0, 4, 5])
 (.seq (.seq (.reg false [⟨some 14, none, .mv (.t 0)⟩, ⟨some 15, none, .call false [] (.f 5) [.t 14, .k (.int .i64 3)]⟩] [0, 4, 5, 15])
 (.cond (.t 15) (.reg false [⟨some 16, none, .faddr 0 (.t 5)⟩, ⟨some 17, none, .load none (.t 16)⟩, ⟨some 18, none, .faddr 1 (.t 5)⟩, ⟨none, none, .store 1 (.t 18) (.t 17)⟩] [0, 4, 5]) .skip))
 (.kp [(0, .keep), (4, .keep), (5, .keep)] F12_t1))))
def F12 : AFunc := ⟨2, [.cell 4 (some 2)], [], F12_c⟩
/-- (*spec.l1Cur).spans -/
def F13_b0 : AC := (.seq (.seq (.reg false [⟨some 9, none, .mv (.t 8)⟩, ⟨some 10, none, .mv (.t 2)⟩, ⟨some 11, none, .bin .lss (.t 9) (.t 10)⟩] [0, 1, 2, 7, 8, 11])
   (.cond (.t 11) .skip (.exit 0)))
   (.seq (.block 1 (.reg false [⟨some 14, none, .mv (.t 7)⟩, ⟨some 15, none, .mv (.t 0)⟩, ⟨some 16, none, .mv (.t 1)⟩, ⟨some 17, none, .call false [] (.f 12) [.t 15, .t 16]⟩, ⟨some 18, none, .bslice 2 [(.w 0#64), (.w 0#64)] 1 [(0, .t 17)]⟩, ⟨some 19, none, .append 2 (.t 14) (.t 18)⟩, ⟨some 7, none, .mv (.t 19)⟩] [0, 1, 2, 7, 8]))
   (.reg false [⟨some 12, none, .mv (.t 8)⟩, ⟨some 13, none, .bin .add (.t 12) (.k (.int .i64 1))⟩, ⟨some 8, none, .mv (.t 13)⟩] [0, 1, 2, 7, 8])))
def F13_l0 : AC := F13_b0
@[simp] theorem u13_0 (T : Nat → Option AFunc) (X : Orc) (F : AFunc) (m : Nat) (K : List AT) (e : Env) (st : St) : go T X F m (.code F13_l0 :: K) e st = go T X F m (.code F13_b0 :: K) e st := rfl
def F13_t0 : AC :=
 (.seq (.reg false [⟨some 20, none, .mv (.t 7)⟩, ⟨some 6, none, .mv (.t 20)⟩] [6])
 .ret)
def F13_c : AC :=
 (.seq (.reg false [⟨some 6, none, .mv (.k .nil)⟩] [0, 1, 2])
 (.seq (.reg false [⟨some 7, none, .mv (.k .nil)⟩] [0, 1, 2, 7])
 (.seq (.seq (.reg false [⟨some 8, none, .mv (.k (.int .i64 0))⟩] [0, 1, 2, 7, 8])
 (.block 0 (.loop [(0, .keep), (1, .keep), (2, .keep), (7, .ow 2), (8, .keep)] F13_l0)))
 (.kp [(7, .keep)] F13_t0))))
def F13 : AFunc := ⟨3, [.t 6], [], F13_c⟩
/-- spec.DrawSpanOf -/
def F14_c : AC :=
 (.seq (.reg false [⟨some 2, none, .mv (.k (.int .i64 0))⟩, ⟨some 3, none, .mv (.k .nil)⟩, ⟨some 4, none, .mv (.k .nil)⟩] [0])
 (.seq (.reg false [⟨some 9, none, .mv (.t 0)⟩, ⟨some 10, none, .build [.d .nil, .d (.int .i64 0), .d (.w 0#64)] [(0, 1, .t 9)]⟩, ⟨some 11, none, .box (.t 10)⟩, ⟨some 5, none, .mv (.t 11)⟩] [5])
 (.seq (.reg false [⟨some 13, none, .mv (.t 5)⟩, ⟨some 14, none, .call false [] (.f 9) [.t 13]⟩, ⟨some 12, none, .mv (.t 14)⟩, ⟨some 15, none, .ext (.t 12) 0⟩, ⟨some 16, none, .ext (.t 12) 1⟩, ⟨some 17, none, .ext (.t 12) 2⟩, ⟨some 6, none, .mv (.t 15)⟩, ⟨some 7, none, .mv (.t 16)⟩, ⟨some 8, none, .mv (.t 17)⟩] [5, 6, 7, 8])
 (.seq (.reg false [⟨some 18, none, .mv (.t 6)⟩, ⟨some 19, none, .mv (.t 8)⟩, ⟨some 20, none, .mv (.t 5)⟩, ⟨some 21, none, .mv (.t 6)⟩, ⟨some 22, none, .mv (.t 7)⟩, ⟨some 23, none, .call false [] (.f 13) [.t 20, .t 21, .t 22]⟩, ⟨some 2, none, .mv (.t 18)⟩, ⟨some 3, none, .mv (.t 19)⟩, ⟨some 4, none, .mv (.t 23)⟩] [2, 3, 4])
 .ret))))
def F14 : AFunc := ⟨1, [.t 2, .t 3, .t 4], [], F14_c⟩
/-- impl.isVars -/
def F15_c : AC :=
 (.seq (.reg false [⟨some 2, none, .mv (.k (.bool false))⟩] [0])
 (.seq (.reg false [⟨some 3, none, .mv (.t 0)⟩, ⟨some 4, none, .bin .geq (.t 3) (.k (.int .i64 1))⟩, ⟨some 5, none, .mv (.t 4)⟩, ⟨some 6, (some (5, true)), .mv (.t 0)⟩, ⟨some 7, (some (5, true)), .bin .leq (.t 6) (.k (.int .i64 4))⟩, ⟨some 8, none, .pick (.t 5) (.t 7) (.k (.bool false))⟩, ⟨some 2, none, .mv (.t 8)⟩] [2])
 .ret))
def F15 : AFunc := ⟨1, [.t 2], [], F15_c⟩
/-- slices.IndexFunc[[]impl.Span,impl.Span] -/
def F16_b0 : AC := (.seq (.reg false [⟨some 9, none, .bin .lss (.t 8) (.t 7)⟩] [0, 1, 7, 8, 9])
   (.seq (.cond (.t 9) .skip (.exit 0))
   (.seq (.block 1 (.seq (.reg false [⟨some 10, none, .mv (.t 8)⟩, ⟨some 5, none, .mv (.t 10)⟩] [0, 1, 5, 7, 8])
    (.seq (.reg false [⟨some 11, none, .mv (.t 1)⟩, ⟨some 12, none, .mv (.t 0)⟩, ⟨some 13, none, .mv (.t 5)⟩, ⟨some 14, none, .iaddr 2 (.t 12) (.t 13)⟩, ⟨some 15, none, .load (some 2) (.t 14)⟩, ⟨some 16, none, .lcall (.t 11) [.t 15]⟩] [0, 1, 5, 7, 8, 16])
    (.cond (.t 16) (.seq (.reg false [⟨some 17, none, .mv (.t 5)⟩, ⟨some 4, none, .mv (.t 17)⟩] [4])
     .ret) .skip))))
   (.reg false [⟨some 18, none, .bin .add (.t 8) (.k (.int .i64 1))⟩, ⟨some 8, none, .mv (.t 18)⟩] [0, 1, 7, 8]))))
def F16_l0 : AC := F16_b0
@[simp] theorem u16_0 (T : Nat → Option AFunc) (X : Orc) (F : AFunc) (m : Nat) (K : List AT) (e : Env) (st : St) : go T X F m (.code F16_l0 :: K) e st = go T X F m (.code F16_b0 :: K) e st := rfl
def F16_t0 : AC :=
 (.seq (.reg false [⟨some 4, none, .mv (.k (.int .i64 (-1)))⟩] [4])
 .ret)
def F16_c : AC :=
 (.seq (.reg false [⟨some 4, none, .mv (.k (.int .i64 0))⟩] [0, 1])
 (.seq (.seq (.reg false [⟨some 6, none, .mv (.t 0)⟩, ⟨some 7, none, .len (.t 6)⟩, ⟨some 8, none, .mv (.k (.int .i64 0))⟩] [0, 1, 7, 8])
 (.block 0 (.loop [(0, .keep), (1, .keep), (7, .keep), (8, .keep)] F16_l0)))
 (.kp [] F16_t0)))
def F16 : AFunc := ⟨2, [.t 4], [], F16_c⟩
/-- slices.ContainsFunc[[]impl.Span,impl.Span] -/
def F17_c : AC :=
 (.seq (.reg false [⟨some 4, none, .mv (.k (.bool false))⟩] [0, 1])
 (.seq (.reg false [⟨some 5, none, .mv (.t 0)⟩, ⟨some 6, none, .mv (.t 1)⟩, ⟨some 7, none, .lcall (.f 16) [.t 5, .t 6]⟩, ⟨some 8, none, .bin .geq (.t 7) (.k (.int .i64 0))⟩, ⟨some 4, none, .mv (.t 8)⟩] [4])
 .ret))
def F17 : AFunc := ⟨2, [.t 4], [], F17_c⟩
/-- impl.isWide -/
def F18_c : AC :=
 (.seq (.reg false [⟨some 2, none, .mv (.k (.bool false))⟩] [0])
 (.seq (.reg false [⟨some 3, none, .mv (.t 0)⟩, ⟨some 4, none, .bin .geq (.t 3) (.k (.int .i64 1))⟩, ⟨some 5, none, .mv (.t 4)⟩, ⟨some 6, (some (5, true)), .mv (.t 0)⟩, ⟨some 7, (some (5, true)), .bin .leq (.t 6) (.k (.int .i64 64))⟩, ⟨some 8, none, .pick (.t 5) (.t 7) (.k (.bool false))⟩, ⟨some 2, none, .mv (.t 8)⟩] [2])
 .ret))
def F18 : AFunc := ⟨1, [.t 2], [], F18_c⟩
/-- impl.mask -/
def F19_c : AC :=
 (.seq (.reg false [⟨some 2, none, .mv (.k (.w 0#64))⟩] [0])
 (.seq (.reg false [⟨some 3, none, .mv (.t 0)⟩, ⟨some 4, none, .bin .sub (.k (.int .i64 64)) (.t 3)⟩, ⟨some 5, none, .bin .shr (.k (.w 18446744073709551615#64)) (.t 4)⟩, ⟨some 2, none, .mv (.t 5)⟩] [2])
 .ret))
def F19 : AFunc := ⟨1, [.t 2], [], F19_c⟩
/-- impl.GoodWord -/
def F20_c : AC :=
 (.seq (.reg false [⟨some 4, none, .mv (.k (.bool false))⟩] [0, 1])
 (.seq (.reg false [⟨some 5, none, .mv (.t 0)⟩, ⟨some 6, none, .pcall (.f 18) [.t 5]⟩, ⟨some 7, none, .mv (.t 6)⟩, ⟨some 8, (some (7, true)), .mv (.t 1)⟩, ⟨some 9, (some (7, true)), .mv (.t 0)⟩, ⟨some 10, (some (7, true)), .pcall (.f 19) [.t 9]⟩, ⟨some 11, (some (7, true)), .bin .leq (.t 8) (.t 10)⟩, ⟨some 12, none, .pick (.t 7) (.t 11) (.k (.bool false))⟩, ⟨some 4, none, .mv (.t 12)⟩] [4])
 .ret))
def F20 : AFunc := ⟨2, [.t 4], [], F20_c⟩
/-- impl.GoodSpan -/
def F21_c : AC :=
 (.seq (.reg false [⟨some 3, none, .box (.t 1)⟩, ⟨some 4, none, .mv (.k (.bool false))⟩] [0, 3])
 (.seq (.reg false [⟨some 5, none, .mv (.t 0)⟩, ⟨some 6, none, .faddr 1 (.t 3)⟩, ⟨some 7, none, .load none (.t 6)⟩, ⟨some 8, none, .pcall (.f 20) [.t 5, .t 7]⟩, ⟨some 9, none, .mv (.t 8)⟩, ⟨some 10, (some (9, true)), .faddr 0 (.t 3)⟩, ⟨some 11, (some (9, true)), .load none (.t 10)⟩, ⟨some 12, (some (9, true)), .faddr 1 (.t 3)⟩, ⟨some 13, (some (9, true)), .load none (.t 12)⟩, ⟨some 14, (some (9, true)), .bin .leq (.t 11) (.t 13)⟩, ⟨some 15, none, .pick (.t 9) (.t 14) (.k (.bool false))⟩, ⟨some 4, none, .mv (.t 15)⟩] [4])
 .ret))
def F21 : AFunc := ⟨2, [.t 4], [], F21_c⟩
/-- impl.areSpans$1 -/
def F22_c : AC :=
 (.seq (.reg false [⟨some 2, none, .box (.t 0)⟩, ⟨some 3, none, .mv (.k (.bool false))⟩] [1, 2])
 (.seq (.reg false [⟨some 4, none, .load none (.t 1)⟩, ⟨some 5, none, .load (some 2) (.t 2)⟩, ⟨some 6, none, .pcall (.f 21) [.t 4, .t 5]⟩, ⟨some 7, none, .un .not (.t 6)⟩, ⟨some 3, none, .mv (.t 7)⟩] [3])
 .ret))
def F22 : AFunc := ⟨2, [.t 3], [], F22_c⟩
/-- impl.areSpans -/
def F23_c : AC :=
 (.seq (.reg false [⟨some 2, none, .box (.t 0)⟩, ⟨some 4, none, .mv (.k (.bool false))⟩] [1, 2])
 (.seq (.reg false [⟨some 5, none, .mv (.t 1)⟩, ⟨some 6, none, .len (.t 5)⟩, ⟨some 7, none, .pcall (.f 15) [.t 6]⟩, ⟨some 8, none, .mv (.t 7)⟩, ⟨some 9, (some (8, true)), .mv (.t 1)⟩, ⟨some 10, (some (8, true)), .mkfn 22 [.t 2]⟩, ⟨some 11, (some (8, true)), .lcall (.f 17) [.t 9, .t 10]⟩, ⟨some 12, (some (8, true)), .un .not (.t 11)⟩, ⟨some 13, none, .pick (.t 8) (.t 12) (.k (.bool false))⟩, ⟨some 4, none, .mv (.t 13)⟩] [4])
 .ret))
def F23 : AFunc := ⟨2, [.t 4], [], F23_c⟩
/-- impl.operandsOf -/
def F24_c : AC :=
 (.seq (.reg false [⟨some 2, none, .mv (.k (.int .i64 0))⟩, ⟨some 3, none, .mv (.k (.int .i64 0))⟩, ⟨some 4, none, .mv (.k (.int .i64 0))⟩] [0])
 (.seq (.block 0 (.seq (.reg false [⟨some 6, none, .mv (.t 0)⟩, ⟨some 7, none, .bin .eql (.t 6) (.k (.int .i64 1))⟩, ⟨some 8, none, .mv (.t 7)⟩, ⟨some 9, (some (8, false)), .mv (.t 0)⟩, ⟨some 10, (some (8, false)), .bin .eql (.t 9) (.k (.int .i64 2))⟩, ⟨some 11, none, .pick (.t 8) (.k (.bool true)) (.t 10)⟩, ⟨some 5, none, .mv (.t 11)⟩] [0, 5])
  (.cond (.t 5) (.seq (.reg false [⟨some 2, none, .mv (.k (.int .i64 0))⟩, ⟨some 3, none, .mv (.k (.int .i64 0))⟩, ⟨some 4, none, .mv (.k (.int .i64 1))⟩] [2, 3, 4])
   .ret) (.seq (.reg false [⟨some 13, none, .mv (.t 0)⟩, ⟨some 14, none, .bin .eql (.t 13) (.k (.int .i64 20))⟩, ⟨some 12, none, .mv (.t 14)⟩] [0, 12])
   (.cond (.t 12) (.seq (.reg false [⟨some 2, none, .mv (.k (.int .i64 0))⟩, ⟨some 3, none, .mv (.k (.int .i64 0))⟩, ⟨some 4, none, .mv (.k (.int .i64 2))⟩] [2, 3, 4])
    .ret) (.seq (.reg false [⟨some 16, none, .mv (.t 0)⟩, ⟨some 17, none, .bin .eql (.t 16) (.k (.int .i64 13))⟩, ⟨some 15, none, .mv (.t 17)⟩] [0, 15])
    (.cond (.t 15) (.seq (.reg false [⟨some 2, none, .mv (.k (.int .i64 1))⟩, ⟨some 3, none, .mv (.k (.int .i64 1))⟩, ⟨some 4, none, .mv (.k (.int .i64 1))⟩] [2, 3, 4])
     .ret) (.seq (.reg false [⟨some 19, none, .mv (.t 0)⟩, ⟨some 20, none, .bin .eql (.t 19) (.k (.int .i64 19))⟩, ⟨some 18, none, .mv (.t 20)⟩] [0, 18])
     (.cond (.t 18) (.seq (.reg false [⟨some 2, none, .mv (.k (.int .i64 1))⟩, ⟨some 3, none, .mv (.k (.int .i64 2))⟩, ⟨some 4, none, .mv (.k (.int .i64 2))⟩] [2, 3, 4])
      .ret) (.seq (.reg false [⟨some 22, none, .mv (.t 0)⟩, ⟨some 23, none, .bin .geq (.t 22) (.k (.int .i64 3))⟩, ⟨some 24, none, .mv (.t 23)⟩, ⟨some 25, (some (24, true)), .mv (.t 0)⟩, ⟨some 26, (some (24, true)), .bin .leq (.t 25) (.k (.int .i64 12))⟩, ⟨some 27, none, .pick (.t 24) (.t 26) (.k (.bool false))⟩, ⟨some 21, none, .mv (.t 27)⟩] [0, 21])
      (.cond (.t 21) (.seq (.reg false [⟨some 2, none, .mv (.k (.int .i64 2))⟩, ⟨some 3, none, .mv (.k (.int .i64 1))⟩, ⟨some 4, none, .mv (.k (.int .i64 1))⟩] [2, 3, 4])
       .ret) (.seq (.reg false [⟨some 29, none, .mv (.t 0)⟩, ⟨some 30, none, .bin .geq (.t 29) (.k (.int .i64 14))⟩, ⟨some 31, none, .mv (.t 30)⟩, ⟨some 32, (some (31, true)), .mv (.t 0)⟩, ⟨some 33, (some (31, true)), .bin .leq (.t 32) (.k (.int .i64 16))⟩, ⟨some 34, none, .pick (.t 31) (.t 33) (.k (.bool false))⟩, ⟨some 28, none, .mv (.t 34)⟩] [0, 28])
       (.cond (.t 28) (.seq (.reg false [⟨some 2, none, .mv (.k (.int .i64 2))⟩, ⟨some 3, none, .mv (.k (.int .i64 1))⟩, ⟨some 4, none, .mv (.k (.int .i64 2))⟩] [2, 3, 4])
        .ret) (.seq (.reg false [⟨some 36, none, .mv (.t 0)⟩, ⟨some 37, none, .bin .eql (.t 36) (.k (.int .i64 17))⟩, ⟨some 38, none, .mv (.t 37)⟩, ⟨some 39, (some (38, false)), .mv (.t 0)⟩, ⟨some 40, (some (38, false)), .bin .eql (.t 39) (.k (.int .i64 18))⟩, ⟨some 41, none, .pick (.t 38) (.k (.bool true)) (.t 40)⟩, ⟨some 35, none, .mv (.t 41)⟩] [35])
        (.cond (.t 35) (.seq (.reg false [⟨some 2, none, .mv (.k (.int .i64 2))⟩, ⟨some 3, none, .mv (.k (.int .i64 2))⟩, ⟨some 4, none, .mv (.k (.int .i64 2))⟩] [2, 3, 4])
         .ret) .skip)))))))))))))))
 (.seq (.reg false [⟨some 2, none, .mv (.k (.int .i64 0))⟩, ⟨some 3, none, .mv (.k (.int .i64 0))⟩, ⟨some 4, none, .mv (.k (.int .i64 0))⟩] [2, 3, 4])
 .ret)))
def F24 : AFunc := ⟨1, [.t 2, .t 3, .t 4], [], F24_c⟩
/-- impl.isLeafRight -/
def F25_c : AC :=
 (.seq (.reg false [⟨some 5, none, .box (.t 2)⟩, ⟨some 6, none, .mv (.k (.bool false))⟩] [0, 1, 5])
 (.seq (.seq (.reg false [⟨some 7, none, .faddr 0 (.t 5)⟩, ⟨some 8, none, .load none (.t 7)⟩] [0, 1, 5, 8])
 (.block 0 (.seq (.reg false [⟨some 10, none, .bin .eql (.t 8) (.k (.int .i64 1))⟩, ⟨some 9, none, .mv (.t 10)⟩] [0, 1, 5, 8, 9])
  (.cond (.t 9) (.seq (.reg false [⟨some 11, none, .mv (.t 0)⟩, ⟨some 12, none, .faddr 1 (.t 5)⟩, ⟨some 13, none, .load none (.t 12)⟩, ⟨some 14, none, .pcall (.f 20) [.t 11, .t 13]⟩, ⟨some 6, none, .mv (.t 14)⟩] [6])
   .ret) (.seq (.reg false [⟨some 16, none, .bin .eql (.t 8) (.k (.int .i64 2))⟩, ⟨some 15, none, .mv (.t 16)⟩] [1, 5, 8, 15])
   (.cond (.t 15) (.seq (.reg false [⟨some 17, none, .faddr 1 (.t 5)⟩, ⟨some 18, none, .load none (.t 17)⟩, ⟨some 19, none, .mv (.t 1)⟩, ⟨some 20, none, .conv .u64 (.t 19)⟩, ⟨some 21, none, .bin .lss (.t 18) (.t 20)⟩, ⟨some 6, none, .mv (.t 21)⟩] [6])
    .ret) (.seq (.reg false [⟨some 23, none, .bin .eql (.t 8) (.k (.int .i64 20))⟩, ⟨some 22, none, .mv (.t 23)⟩] [5, 22])
    (.cond (.t 22) (.seq (.reg false [⟨some 24, none, .faddr 1 (.t 5)⟩, ⟨some 25, none, .load none (.t 24)⟩, ⟨some 26, none, .bin .leq (.t 25) (.k (.w 1#64))⟩, ⟨some 6, none, .mv (.t 26)⟩] [6])
     .ret) .skip))))))))
 (.seq (.reg false [⟨some 27, none, .faddr 1 (.t 5)⟩, ⟨some 28, none, .load none (.t 27)⟩, ⟨some 29, none, .bin .eql (.t 28) (.k (.w 0#64))⟩, ⟨some 6, none, .mv (.t 29)⟩] [6])
 .ret)))
def F25 : AFunc := ⟨3, [.t 6], [], F25_c⟩
/-- slices.IndexFunc[[]int,int] -/
def F26_b0 : AC := (.seq (.reg false [⟨some 9, none, .bin .lss (.t 8) (.t 7)⟩] [0, 1, 7, 8, 9])
   (.seq (.cond (.t 9) .skip (.exit 0))
   (.seq (.block 1 (.seq (.reg false [⟨some 10, none, .mv (.t 8)⟩, ⟨some 5, none, .mv (.t 10)⟩] [0, 1, 5, 7, 8])
    (.seq (.reg false [⟨some 11, none, .mv (.t 1)⟩, ⟨some 12, none, .mv (.t 0)⟩, ⟨some 13, none, .mv (.t 5)⟩, ⟨some 14, none, .iaddr 1 (.t 12) (.t 13)⟩, ⟨some 15, none, .load none (.t 14)⟩, ⟨some 16, none, .lcall (.t 11) [.t 15]⟩] [0, 1, 5, 7, 8, 16])
    (.cond (.t 16) (.seq (.reg false [⟨some 17, none, .mv (.t 5)⟩, ⟨some 4, none, .mv (.t 17)⟩] [4])
     .ret) .skip))))
   (.reg false [⟨some 18, none, .bin .add (.t 8) (.k (.int .i64 1))⟩, ⟨some 8, none, .mv (.t 18)⟩] [0, 1, 7, 8]))))
def F26_l0 : AC := F26_b0
@[simp] theorem u26_0 (T : Nat → Option AFunc) (X : Orc) (F : AFunc) (m : Nat) (K : List AT) (e : Env) (st : St) : go T X F m (.code F26_l0 :: K) e st = go T X F m (.code F26_b0 :: K) e st := rfl
def F26_t0 : AC :=
 (.seq (.reg false [⟨some 4, none, .mv (.k (.int .i64 (-1)))⟩] [4])
 .ret)
def F26_c : AC :=
 (.seq (.reg false [⟨some 4, none, .mv (.k (.int .i64 0))⟩] [0, 1])
 (.seq (.seq (.reg false [⟨some 6, none, .mv (.t 0)⟩, ⟨some 7, none, .len (.t 6)⟩, ⟨some 8, none, .mv (.k (.int .i64 0))⟩] [0, 1, 7, 8])
 (.block 0 (.loop [(0, .keep), (1, .keep), (7, .keep), (8, .keep)] F26_l0)))
 (.kp [] F26_t0)))
def F26 : AFunc := ⟨2, [.t 4], [], F26_c⟩
/-- slices.ContainsFunc[[]int,int] -/
def F27_c : AC :=
 (.seq (.reg false [⟨some 4, none, .mv (.k (.bool false))⟩] [0, 1])
 (.seq (.reg false [⟨some 5, none, .mv (.t 0)⟩, ⟨some 6, none, .mv (.t 1)⟩, ⟨some 7, none, .lcall (.f 26) [.t 5, .t 6]⟩, ⟨some 8, none, .bin .geq (.t 7) (.k (.int .i64 0))⟩, ⟨some 4, none, .mv (.t 8)⟩] [4])
 .ret))
def F27 : AFunc := ⟨2, [.t 4], [], F27_c⟩
/-- impl.GoodTerm$1 -/
def F28_c : AC :=
 (.seq (.reg false [⟨some 3, none, .mv (.k (.bool false))⟩] [0, 1])
 (.seq (.reg false [⟨some 4, none, .mv (.t 0)⟩, ⟨some 5, none, .load none (.t 1)⟩, ⟨some 6, none, .bin .neq (.t 4) (.t 5)⟩, ⟨some 3, none, .mv (.t 6)⟩] [3])
 .ret))
def F28 : AFunc := ⟨2, [.t 3], [], F28_c⟩
/-- impl.GoodTerm -/
def F29_b0 : AC := (.seq (.reg false [⟨some 36, none, .bin .lss (.t 35) (.t 34)⟩] [0, 1, 7, 33, 34, 35, 36])
   (.seq (.cond (.t 36) .skip (.exit 0))
   (.seq (.block 1 (.seq (.reg false [⟨some 37, none, .iaddr 2 (.t 33) (.t 35)⟩, ⟨some 38, none, .load (some 2) (.t 37)⟩, ⟨some 9, none, .alloc [.d (.int .i64 0), .d (.w 0#64)]⟩, ⟨none, none, .store 2 (.t 9) (.t 38)⟩] [0, 1, 7, 9, 33, 34, 35])
    (.seq (.reg false [⟨some 40, none, .faddr 0 (.t 9)⟩, ⟨some 41, none, .load none (.t 40)⟩, ⟨some 42, none, .pcall (.f 24) [.t 41]⟩, ⟨some 39, none, .mv (.t 42)⟩, ⟨some 43, none, .ext (.t 39) 0⟩, ⟨some 44, none, .ext (.t 39) 1⟩, ⟨some 45, none, .ext (.t 39) 2⟩, ⟨some 11, none, .alloc [.d (.int .i64 0)]⟩, ⟨some 10, none, .mv (.t 43)⟩, ⟨none, none, .store 1 (.t 11) (.t 44)⟩, ⟨some 12, none, .mv (.t 45)⟩] [0, 1, 7, 9, 10, 11, 12, 33, 34, 35])
    (.seq (.reg false [⟨some 46, none, .mv (.t 7)⟩, ⟨some 47, none, .len (.t 46)⟩, ⟨some 48, none, .mv (.t 10)⟩, ⟨some 49, none, .bin .sub (.t 47) (.t 48)⟩, ⟨some 13, none, .mv (.t 49)⟩] [0, 1, 7, 9, 11, 12, 13, 33, 34, 35])
    (.seq (.seq (.reg false [⟨some 50, none, .mv (.t 12)⟩, ⟨some 51, none, .bin .eql (.t 50) (.k (.int .i64 0))⟩, ⟨some 52, none, .mv (.t 51)⟩, ⟨some 53, (some (52, false)), .mv (.t 0)⟩, ⟨some 54, (some (52, false)), .mv (.t 1)⟩, ⟨some 55, (some (52, false)), .load (some 2) (.t 9)⟩, ⟨some 56, (some (52, false)), .pcall (.f 25) [.t 53, .t 54, .t 55]⟩, ⟨some 57, (some (52, false)), .un .not (.t 56)⟩, ⟨some 58, none, .pick (.t 52) (.k (.bool true)) (.t 57)⟩, ⟨some 59, none, .mv (.t 58)⟩, ⟨some 60, (some (59, false)), .mv (.t 13)⟩, ⟨some 61, (some (59, false)), .bin .lss (.t 60) (.k (.int .i64 0))⟩, ⟨some 62, none, .pick (.t 59) (.k (.bool true)) (.t 61)⟩, ⟨some 63, none, .mv (.t 62)⟩, ⟨some 64, (some (63, false)), .mv (.t 7)⟩, ⟨some 65, (some (63, false)), .mv (.t 13)⟩, ⟨some 66, (some (63, false)), .slice 1 (.t 64) (some (.t 65)) none⟩, ⟨some 67, (some (63, false)), .mkfn 28 [.t 11]⟩, ⟨some 68, (some (63, false)), .lcall (.f 27) [.t 66, .t 67]⟩, ⟨some 69, none, .pick (.t 63) (.k (.bool true)) (.t 68)⟩] [0, 1, 7, 12, 13, 33, 34, 35, 69])
    (.cond (.t 69) (.seq (.reg false [⟨some 6, none, .mv (.k (.bool false))⟩] [6])
     .ret) .skip))
    (.reg false [⟨some 70, none, .mv (.t 7)⟩, ⟨some 71, none, .mv (.t 13)⟩, ⟨some 72, none, .slice 1 (.t 70) none (some (.t 71))⟩, ⟨some 73, none, .mv (.t 12)⟩, ⟨some 74, none, .bslice 1 [(.int .i64 0)] 1 [(0, .t 73)]⟩, ⟨some 75, none, .append 1 (.t 72) (.t 74)⟩, ⟨some 7, none, .mv (.t 75)⟩] [0, 1, 7, 33, 34, 35]))))))
   (.reg false [⟨some 76, none, .bin .add (.t 35) (.k (.int .i64 1))⟩, ⟨some 35, none, .mv (.t 76)⟩] [0, 1, 7, 33, 34, 35]))))
def F29_l0 : AC := F29_b0
@[simp] theorem u29_0 (T : Nat → Option AFunc) (X : Orc) (F : AFunc) (m : Nat) (K : List AT) (e : Env) (st : St) : go T X F m (.code F29_l0 :: K) e st = go T X F m (.code F29_b0 :: K) e st := rfl
def F29_t0 : AC :=
 (.seq (.reg false [⟨some 77, none, .mv (.t 7)⟩, ⟨some 78, none, .len (.t 77)⟩, ⟨some 79, none, .bin .eql (.t 78) (.k (.int .i64 1))⟩, ⟨some 6, none, .mv (.t 79)⟩] [6])
 .ret)
def F29_c : AC :=
 (.seq (.reg false [⟨some 6, none, .mv (.k (.bool false))⟩] [0, 1, 2])
 (.seq (.seq (.reg false [⟨some 14, none, .mv (.t 0)⟩, ⟨some 15, none, .pcall (.f 18) [.t 14]⟩, ⟨some 16, none, .un .not (.t 15)⟩, ⟨some 17, none, .mv (.t 16)⟩, ⟨some 18, (some (17, false)), .mv (.t 1)⟩, ⟨some 19, (some (17, false)), .pcall (.f 15) [.t 18]⟩, ⟨some 20, (some (17, false)), .un .not (.t 19)⟩, ⟨some 21, none, .pick (.t 17) (.k (.bool true)) (.t 20)⟩, ⟨some 22, none, .mv (.t 21)⟩, ⟨some 23, (some (22, false)), .mv (.t 2)⟩, ⟨some 24, (some (22, false)), .len (.t 23)⟩, ⟨some 25, (some (22, false)), .bin .lss (.t 24) (.k (.int .i64 1))⟩, ⟨some 26, none, .pick (.t 22) (.k (.bool true)) (.t 25)⟩, ⟨some 27, none, .mv (.t 26)⟩, ⟨some 28, (some (27, false)), .mv (.t 2)⟩, ⟨some 29, (some (27, false)), .len (.t 28)⟩, ⟨some 30, (some (27, false)), .bin .gtr (.t 29) (.k (.int .i64 48))⟩, ⟨some 31, none, .pick (.t 27) (.k (.bool true)) (.t 30)⟩] [0, 1, 2, 31])
 (.cond (.t 31) (.seq (.reg false [⟨some 6, none, .mv (.k (.bool false))⟩] [6])
  .ret) .skip))
 (.seq (.reg false [⟨some 32, none, .bslice 1 [(.int .i64 0)] 0 []⟩, ⟨some 7, none, .mv (.t 32)⟩] [0, 1, 2, 7])
 (.seq (.seq (.reg false [⟨some 33, none, .mv (.t 2)⟩, ⟨some 34, none, .len (.t 33)⟩, ⟨some 35, none, .mv (.k (.int .i64 0))⟩] [0, 1, 7, 33, 34, 35])
 (.block 0 (.loop [(0, .keep), (1, .keep), (7, .ow 1), (33, .keep), (34, .keep), (35, .keep)] F29_l0)))
 (.kp [(7, .keep)] F29_t0)))))
def F29 : AFunc := ⟨3, [.t 6], [], F29_c⟩
/-- impl.meetSpans -/
def F30_c : AC :=
 (.seq (.reg false [⟨some 2, none, .box (.t 0)⟩, ⟨some 3, none, .box (.t 1)⟩, ⟨some 4, none, .alloc [.d (.w 0#64), .d (.w 0#64)]⟩, ⟨some 5, none, .mv (.k (.bool false))⟩] [2, 3, 4])
 (.seq (.reg false [⟨some 7, none, .faddr 0 (.t 2)⟩, ⟨some 8, none, .load none (.t 7)⟩, ⟨some 9, none, .faddr 0 (.t 3)⟩, ⟨some 10, none, .load none (.t 9)⟩, ⟨some 11, none, .max (.t 8) (.t 10)⟩, ⟨some 12, none, .faddr 1 (.t 2)⟩, ⟨some 13, none, .load none (.t 12)⟩, ⟨some 14, none, .faddr 1 (.t 3)⟩, ⟨some 15, none, .load none (.t 14)⟩, ⟨some 16, none, .min (.t 13) (.t 15)⟩, ⟨some 17, none, .build [.d (.w 0#64), .d (.w 0#64)] [(0, 1, .t 11), (1, 1, .t 16)]⟩, ⟨some 6, none, .alloc [.d (.w 0#64), .d (.w 0#64)]⟩, ⟨none, none, .store 2 (.t 6) (.t 17)⟩] [4, 6])
 (.seq (.seq (.reg false [⟨some 18, none, .faddr 0 (.t 6)⟩, ⟨some 19, none, .load none (.t 18)⟩, ⟨some 20, none, .faddr 1 (.t 6)⟩, ⟨some 21, none, .load none (.t 20)⟩, ⟨some 22, none, .bin .gtr (.t 19) (.t 21)⟩] [4, 6, 22])
 (.cond (.t 22) (.seq (.reg false [⟨some 23, none, .build [.d (.w 0#64), .d (.w 0#64)] []⟩, ⟨none, none, .store 2 (.t 4) (.t 23)⟩, ⟨some 5, none, .mv (.k (.bool false))⟩] [4, 5])
  .ret) .skip))
 (.seq (.reg false [⟨some 24, none, .load (some 2) (.t 6)⟩, ⟨none, none, .store 2 (.t 4) (.t 24)⟩, ⟨some 5, none, .mv (.k (.bool true))⟩] [4, 5])
 .ret))))
def F30 : AFunc := ⟨2, [.cell 4 (some 2), .t 5], [], F30_c⟩
/-- impl.sumSpan -/
def F32_c : AC :=
 (.seq (.reg false [⟨some 3, none, .box (.t 0)⟩, ⟨some 4, none, .box (.t 1)⟩, ⟨some 5, none, .box (.t 2)⟩, ⟨some 6, none, .alloc [.d (.w 0#64), .d (.w 0#64)]⟩] [3, 4, 5, 6])
 (.seq (.seq (.reg false [⟨some 10, none, .faddr 1 (.t 4)⟩, ⟨some 11, none, .load none (.t 10)⟩, ⟨some 12, none, .faddr 1 (.t 5)⟩, ⟨some 13, none, .load none (.t 12)⟩, ⟨some 14, none, .pcall (.f 31) [.t 11, .t 13, .k (.w 0#64)]⟩, ⟨some 9, none, .mv (.t 14)⟩, ⟨some 15, none, .ext (.t 9) 0⟩, ⟨some 16, none, .ext (.t 9) 1⟩, ⟨some 7, none, .mv (.t 15)⟩, ⟨some 8, none, .mv (.t 16)⟩] [3, 4, 5, 6, 7, 8])
 (.seq (.reg false [⟨some 17, none, .mv (.t 8)⟩, ⟨some 18, none, .bin .eql (.t 17) (.k (.w 0#64))⟩, ⟨some 19, none, .mv (.t 18)⟩, ⟨some 20, (some (19, true)), .mv (.t 7)⟩, ⟨some 21, (some (19, true)), .faddr 1 (.t 3)⟩, ⟨some 22, (some (19, true)), .load none (.t 21)⟩, ⟨some 23, (some (19, true)), .bin .leq (.t 20) (.t 22)⟩, ⟨some 24, none, .pick (.t 19) (.t 23) (.k (.bool false))⟩] [3, 4, 5, 6, 7, 24])
 (.cond (.t 24) (.seq (.reg false [⟨some 25, none, .faddr 0 (.t 4)⟩, ⟨some 26, none, .load none (.t 25)⟩, ⟨some 27, none, .faddr 0 (.t 5)⟩, ⟨some 28, none, .load none (.t 27)⟩, ⟨some 29, none, .bin .add (.t 26) (.t 28)⟩, ⟨some 30, none, .mv (.t 7)⟩, ⟨some 31, none, .build [.d (.w 0#64), .d (.w 0#64)] [(0, 1, .t 29), (1, 1, .t 30)]⟩, ⟨none, none, .store 2 (.t 6) (.t 31)⟩] [6])
  .ret) .skip)))
 (.seq (.reg false [⟨some 32, none, .load (some 2) (.t 3)⟩, ⟨none, none, .store 2 (.t 6) (.t 32)⟩] [6])
 .ret)))
def F32 : AFunc := ⟨3, [.cell 6 (some 2)], [], F32_c⟩
/-- math/bits.Mul64 -/
def F33_c : AC :=
 (.seq (.reg false [⟨some 4, none, .mv (.k (.w 0#64))⟩, ⟨some 5, none, .mv (.k (.w 0#64))⟩] [0, 1])
 (.seq (.reg false [⟨some 14, none, .mv (.t 0)⟩, ⟨some 15, none, .bin .and (.t 14) (.k (.w 4294967295#64))⟩, ⟨some 6, none, .mv (.t 15)⟩] [0, 1, 6])
 (.seq (.reg false [⟨some 16, none, .mv (.t 0)⟩, ⟨some 17, none, .bin .shr (.t 16) (.k (.w 32#64))⟩, ⟨some 7, none, .mv (.t 17)⟩] [0, 1, 6, 7])
 (.seq (.reg false [⟨some 18, none, .mv (.t 1)⟩, ⟨some 19, none, .bin .and (.t 18) (.k (.w 4294967295#64))⟩, ⟨some 8, none, .mv (.t 19)⟩] [0, 1, 6, 7, 8])
 (.seq (.reg false [⟨some 20, none, .mv (.t 1)⟩, ⟨some 21, none, .bin .shr (.t 20) (.k (.w 32#64))⟩, ⟨some 9, none, .mv (.t 21)⟩] [0, 1, 6, 7, 8, 9])
 (.seq (.reg false [⟨some 22, none, .mv (.t 6)⟩, ⟨some 23, none, .mv (.t 8)⟩, ⟨some 24, none, .bin .mul (.t 22) (.t 23)⟩, ⟨some 10, none, .mv (.t 24)⟩] [0, 1, 6, 7, 8, 9, 10])
 (.seq (.reg false [⟨some 25, none, .mv (.t 7)⟩, ⟨some 26, none, .mv (.t 8)⟩, ⟨some 27, none, .bin .mul (.t 25) (.t 26)⟩, ⟨some 28, none, .mv (.t 10)⟩, ⟨some 29, none, .bin .shr (.t 28) (.k (.w 32#64))⟩, ⟨some 30, none, .bin .add (.t 27) (.t 29)⟩, ⟨some 11, none, .mv (.t 30)⟩] [0, 1, 6, 7, 9, 11])
 (.seq (.reg false [⟨some 31, none, .mv (.t 11)⟩, ⟨some 32, none, .bin .and (.t 31) (.k (.w 4294967295#64))⟩, ⟨some 12, none, .mv (.t 32)⟩] [0, 1, 6, 7, 9, 11, 12])
 (.seq (.reg false [⟨some 33, none, .mv (.t 11)⟩, ⟨some 34, none, .bin .shr (.t 33) (.k (.w 32#64))⟩, ⟨some 13, none, .mv (.t 34)⟩] [0, 1, 6, 7, 9, 12, 13])
 (.seq (.reg false [⟨some 35, none, .mv (.t 12)⟩, ⟨some 36, none, .mv (.t 6)⟩, ⟨some 37, none, .mv (.t 9)⟩, ⟨some 38, none, .bin .mul (.t 36) (.t 37)⟩, ⟨some 39, none, .bin .add (.t 35) (.t 38)⟩, ⟨some 12, none, .mv (.t 39)⟩] [0, 1, 7, 9, 12, 13])
 (.seq (.reg false [⟨some 40, none, .mv (.t 7)⟩, ⟨some 41, none, .mv (.t 9)⟩, ⟨some 42, none, .bin .mul (.t 40) (.t 41)⟩, ⟨some 43, none, .mv (.t 13)⟩, ⟨some 44, none, .bin .add (.t 42) (.t 43)⟩, ⟨some 45, none, .mv (.t 12)⟩, ⟨some 46, none, .bin .shr (.t 45) (.k (.w 32#64))⟩, ⟨some 47, none, .bin .add (.t 44) (.t 46)⟩, ⟨some 4, none, .mv (.t 47)⟩] [0, 1, 4])
 (.seq (.reg false [⟨some 48, none, .mv (.t 0)⟩, ⟨some 49, none, .mv (.t 1)⟩, ⟨some 50, none, .bin .mul (.t 48) (.t 49)⟩, ⟨some 5, none, .mv (.t 50)⟩] [4, 5])
 .ret))))))))))))
def F33 : AFunc := ⟨2, [.t 4, .t 5], [], F33_c⟩
/-- impl.productSpan -/
def F34_c : AC :=
 (.seq (.reg false [⟨some 3, none, .box (.t 0)⟩, ⟨some 4, none, .box (.t 1)⟩, ⟨some 5, none, .box (.t 2)⟩, ⟨some 6, none, .alloc [.d (.w 0#64), .d (.w 0#64)]⟩] [3, 4, 5, 6])
 (.seq (.seq (.reg false [⟨some 10, none, .faddr 1 (.t 4)⟩, ⟨some 11, none, .load none (.t 10)⟩, ⟨some 12, none, .faddr 1 (.t 5)⟩, ⟨some 13, none, .load none (.t 12)⟩, ⟨some 14, none, .pcall (.f 33) [.t 11, .t 13]⟩, ⟨some 9, none, .mv (.t 14)⟩, ⟨some 15, none, .ext (.t 9) 0⟩, ⟨some 16, none, .ext (.t 9) 1⟩, ⟨some 7, none, .mv (.t 15)⟩, ⟨some 8, none, .mv (.t 16)⟩] [3, 4, 5, 6, 7, 8])
 (.seq (.reg false [⟨some 17, none, .mv (.t 7)⟩, ⟨some 18, none, .bin .eql (.t 17) (.k (.w 0#64))⟩, ⟨some 19, none, .mv (.t 18)⟩, ⟨some 20, (some (19, true)), .mv (.t 8)⟩, ⟨some 21, (some (19, true)), .faddr 1 (.t 3)⟩, ⟨some 22, (some (19, true)), .load none (.t 21)⟩, ⟨some 23, (some (19, true)), .bin .leq (.t 20) (.t 22)⟩, ⟨some 24, none, .pick (.t 19) (.t 23) (.k (.bool false))⟩] [3, 4, 5, 6, 8, 24])
 (.cond (.t 24) (.seq (.reg false [⟨some 25, none, .faddr 0 (.t 4)⟩, ⟨some 26, none, .load none (.t 25)⟩, ⟨some 27, none, .faddr 0 (.t 5)⟩, ⟨some 28, none, .load none (.t 27)⟩, ⟨some 29, none, .bin .mul (.t 26) (.t 28)⟩, ⟨some 30, none, .mv (.t 8)⟩, ⟨some 31, none, .build [.d (.w 0#64), .d (.w 0#64)] [(0, 1, .t 29), (1, 1, .t 30)]⟩, ⟨none, none, .store 2 (.t 6) (.t 31)⟩] [6])
  .ret) .skip)))
 (.seq (.reg false [⟨some 32, none, .load (some 2) (.t 3)⟩, ⟨none, none, .store 2 (.t 6) (.t 32)⟩] [6])
 .ret)))
def F34 : AFunc := ⟨3, [.cell 6 (some 2)], [], F34_c⟩
/-- impl.comparison -/
def F35_c : AC :=
 (.seq (.reg false [⟨some 4, none, .alloc [.d (.w 0#64), .d (.w 0#64)]⟩] [0, 1, 4])
 (.seq (.block 0 (.seq (.reg false [⟨some 6, none, .mv (.t 0)⟩, ⟨some 5, none, .mv (.t 6)⟩] [1, 4, 5])
  (.cond (.t 5) (.seq (.reg false [⟨some 7, none, .build [.d (.w 0#64), .d (.w 0#64)] [(0, 1, .k (.w 1#64)), (1, 1, .k (.w 1#64))]⟩, ⟨none, none, .store 2 (.t 4) (.t 7)⟩] [4])
   .ret) (.seq (.reg false [⟨some 9, none, .mv (.t 1)⟩, ⟨some 8, none, .mv (.t 9)⟩] [4, 8])
   (.cond (.t 8) (.seq (.reg false [⟨some 10, none, .build [.d (.w 0#64), .d (.w 0#64)] [(0, 1, .k (.w 0#64)), (1, 1, .k (.w 0#64))]⟩, ⟨none, none, .store 2 (.t 4) (.t 10)⟩] [4])
    .ret) .skip)))))
 (.seq (.reg false [⟨some 11, none, .build [.d (.w 0#64), .d (.w 0#64)] [(0, 1, .k (.w 0#64)), (1, 1, .k (.w 1#64))]⟩, ⟨none, none, .store 2 (.t 4) (.t 11)⟩] [4])
 .ret)))
def F35 : AFunc := ⟨2, [.cell 4 (some 2)], [], F35_c⟩
/-- impl.spanOfTwo -/
def F36_t0 : AC :=
 (.seq (.reg false [⟨some 164, none, .load (some 2) (.t 5)⟩, ⟨none, none, .store 2 (.t 8) (.t 164)⟩] [8])
 .ret)
def F36_c : AC :=
 (.seq (.reg false [⟨some 5, none, .box (.t 1)⟩, ⟨some 6, none, .box (.t 2)⟩, ⟨some 7, none, .box (.t 3)⟩, ⟨some 8, none, .alloc [.d (.w 0#64), .d (.w 0#64)]⟩] [0, 5, 6, 7, 8])
 (.seq (.seq (.reg false [⟨some 11, none, .mv (.t 0)⟩] [5, 6, 7, 8, 11])
 (.block 0 (.seq (.reg false [⟨some 13, none, .bin .eql (.t 11) (.k (.int .i64 3))⟩, ⟨some 12, none, .mv (.t 13)⟩] [5, 6, 7, 8, 11, 12])
  (.cond (.t 12) (.seq (.reg false [⟨some 14, none, .load (some 2) (.t 5)⟩, ⟨some 15, none, .load (some 2) (.t 6)⟩, ⟨some 16, none, .load (some 2) (.t 7)⟩, ⟨some 17, none, .pcall (.f 32) [.t 14, .t 15, .t 16]⟩, ⟨none, none, .store 2 (.t 8) (.t 17)⟩] [8])
   .ret) (.seq (.reg false [⟨some 19, none, .bin .eql (.t 11) (.k (.int .i64 5))⟩, ⟨some 18, none, .mv (.t 19)⟩] [5, 6, 7, 8, 11, 18])
   (.cond (.t 18) (.seq (.reg false [⟨some 20, none, .load (some 2) (.t 5)⟩, ⟨some 21, none, .load (some 2) (.t 6)⟩, ⟨some 22, none, .load (some 2) (.t 7)⟩, ⟨some 23, none, .pcall (.f 34) [.t 20, .t 21, .t 22]⟩, ⟨none, none, .store 2 (.t 8) (.t 23)⟩] [8])
    .ret) (.seq (.reg false [⟨some 25, none, .bin .eql (.t 11) (.k (.int .i64 4))⟩, ⟨some 24, none, .mv (.t 25)⟩] [5, 6, 7, 8, 11, 24])
    (.cond (.t 24) (.seq (.reg false [⟨some 26, none, .faddr 0 (.t 6)⟩, ⟨some 27, none, .load none (.t 26)⟩, ⟨some 28, none, .faddr 1 (.t 7)⟩, ⟨some 29, none, .load none (.t 28)⟩, ⟨some 30, none, .bin .geq (.t 27) (.t 29)⟩] [5, 6, 7, 8, 30])
     (.cond (.t 30) (.seq (.reg false [⟨some 31, none, .faddr 0 (.t 6)⟩, ⟨some 32, none, .load none (.t 31)⟩, ⟨some 33, none, .faddr 1 (.t 7)⟩, ⟨some 34, none, .load none (.t 33)⟩, ⟨some 35, none, .bin .sub (.t 32) (.t 34)⟩, ⟨some 36, none, .faddr 1 (.t 6)⟩, ⟨some 37, none, .load none (.t 36)⟩, ⟨some 38, none, .faddr 0 (.t 7)⟩, ⟨some 39, none, .load none (.t 38)⟩, ⟨some 40, none, .bin .sub (.t 37) (.t 39)⟩, ⟨some 41, none, .build [.d (.w 0#64), .d (.w 0#64)] [(0, 1, .t 35), (1, 1, .t 40)]⟩, ⟨none, none, .store 2 (.t 8) (.t 41)⟩] [8])
      .ret) .skip)) (.seq (.reg false [⟨some 43, none, .bin .eql (.t 11) (.k (.int .i64 6))⟩, ⟨some 42, none, .mv (.t 43)⟩] [5, 6, 7, 8, 11, 42])
     (.cond (.t 42) (.seq (.reg false [⟨some 44, none, .faddr 0 (.t 7)⟩, ⟨some 45, none, .load none (.t 44)⟩, ⟨some 46, none, .bin .gtr (.t 45) (.k (.w 0#64))⟩] [5, 6, 7, 8, 46])
      (.cond (.t 46) (.seq (.reg true [⟨some 47, none, .faddr 0 (.t 6)⟩, ⟨some 48, none, .load none (.t 47)⟩, ⟨some 49, none, .faddr 1 (.t 7)⟩, ⟨some 50, none, .load none (.t 49)⟩, ⟨some 51, none, .bin .quo (.t 48) (.t 50)⟩, ⟨some 52, none, .faddr 1 (.t 6)⟩, ⟨some 53, none, .load none (.t 52)⟩, ⟨some 54, none, .faddr 0 (.t 7)⟩, ⟨some 55, none, .load none (.t 54)⟩, ⟨some 56, none, .bin .quo (.t 53) (.t 55)⟩, ⟨some 57, none, .build [.d (.w 0#64), .d (.w 0#64)] [(0, 1, .t 51), (1, 1, .t 56)]⟩, ⟨none, none, .store 2 (.t 8) (.t 57)⟩] [8])
       .ret) .skip)) (.seq (.reg false [⟨some 59, none, .bin .eql (.t 11) (.k (.int .i64 7))⟩, ⟨some 58, none, .mv (.t 59)⟩] [5, 6, 7, 8, 11, 58])
      (.cond (.t 58) (.seq (.seq (.reg false [⟨some 60, none, .faddr 0 (.t 7)⟩, ⟨some 61, none, .load none (.t 60)⟩, ⟨some 62, none, .bin .gtr (.t 61) (.k (.w 0#64))⟩, ⟨some 63, none, .mv (.t 62)⟩, ⟨some 64, (some (63, true)), .faddr 1 (.t 7)⟩, ⟨some 65, (some (63, true)), .load none (.t 64)⟩, ⟨some 66, (some (63, true)), .bin .sub (.t 65) (.k (.w 1#64))⟩, ⟨some 67, (some (63, true)), .faddr 1 (.t 6)⟩, ⟨some 68, (some (63, true)), .load none (.t 67)⟩, ⟨some 69, (some (63, true)), .bin .lss (.t 66) (.t 68)⟩, ⟨some 70, none, .pick (.t 63) (.t 69) (.k (.bool false))⟩] [6, 7, 8, 70])
       (.cond (.t 70) (.seq (.reg false [⟨some 71, none, .faddr 1 (.t 7)⟩, ⟨some 72, none, .load none (.t 71)⟩, ⟨some 73, none, .bin .sub (.t 72) (.k (.w 1#64))⟩, ⟨some 74, none, .build [.d (.w 0#64), .d (.w 0#64)] [(0, 1, .k (.w 0#64)), (1, 1, .t 73)]⟩, ⟨none, none, .store 2 (.t 8) (.t 74)⟩] [8])
        .ret) .skip))
       (.seq (.reg false [⟨some 75, none, .faddr 1 (.t 6)⟩, ⟨some 76, none, .load none (.t 75)⟩, ⟨some 77, none, .build [.d (.w 0#64), .d (.w 0#64)] [(0, 1, .k (.w 0#64)), (1, 1, .t 76)]⟩, ⟨none, none, .store 2 (.t 8) (.t 77)⟩] [8])
       .ret)) (.seq (.reg false [⟨some 79, none, .bin .eql (.t 11) (.k (.int .i64 12))⟩, ⟨some 78, none, .mv (.t 79)⟩] [5, 6, 7, 8, 11, 78])
       (.cond (.t 78) (.seq (.reg false [⟨some 80, none, .faddr 1 (.t 6)⟩, ⟨some 81, none, .load none (.t 80)⟩, ⟨some 82, none, .build [.d (.w 0#64), .d (.w 0#64)] [(0, 1, .k (.w 0#64)), (1, 1, .t 81)]⟩, ⟨none, none, .store 2 (.t 8) (.t 82)⟩] [8])
        .ret) (.seq (.reg false [⟨some 84, none, .bin .eql (.t 11) (.k (.int .i64 8))⟩, ⟨some 83, none, .mv (.t 84)⟩] [5, 6, 7, 8, 11, 83])
        (.cond (.t 83) (.seq (.reg false [⟨some 85, none, .faddr 1 (.t 6)⟩, ⟨some 86, none, .load none (.t 85)⟩, ⟨some 87, none, .faddr 1 (.t 7)⟩, ⟨some 88, none, .load none (.t 87)⟩, ⟨some 89, none, .min (.t 86) (.t 88)⟩, ⟨some 90, none, .build [.d (.w 0#64), .d (.w 0#64)] [(0, 1, .k (.w 0#64)), (1, 1, .t 89)]⟩, ⟨none, none, .store 2 (.t 8) (.t 90)⟩] [8])
         .ret) (.seq (.reg false [⟨some 92, none, .bin .eql (.t 11) (.k (.int .i64 9))⟩, ⟨some 91, none, .mv (.t 92)⟩] [5, 6, 7, 8, 11, 91])
         (.cond (.t 91) (.seq (.reg false [⟨some 93, none, .faddr 0 (.t 6)⟩, ⟨some 94, none, .load none (.t 93)⟩, ⟨some 95, none, .faddr 0 (.t 7)⟩, ⟨some 96, none, .load none (.t 95)⟩, ⟨some 97, none, .max (.t 94) (.t 96)⟩, ⟨some 98, none, .faddr 1 (.t 5)⟩, ⟨some 99, none, .load none (.t 98)⟩, ⟨some 100, none, .build [.d (.w 0#64), .d (.w 0#64)] [(0, 1, .t 97), (1, 1, .t 99)]⟩, ⟨none, none, .store 2 (.t 8) (.t 100)⟩] [8])
          .ret) (.seq (.reg false [⟨some 102, none, .bin .eql (.t 11) (.k (.int .i64 14))⟩, ⟨some 101, none, .mv (.t 102)⟩] [5, 6, 7, 8, 11, 101])
          (.cond (.t 101) (.seq (.reg false [⟨some 104, none, .load (some 2) (.t 6)⟩, ⟨some 105, none, .load (some 2) (.t 7)⟩, ⟨some 106, none, .pcall (.f 30) [.t 104, .t 105]⟩, ⟨some 103, none, .mv (.t 106)⟩, ⟨some 107, none, .ext (.t 103) 0⟩, ⟨some 108, none, .ext (.t 103) 1⟩, ⟨some 9, none, .alloc [.d (.w 0#64), .d (.w 0#64)]⟩, ⟨none, none, .store 2 (.t 9) (.t 107)⟩, ⟨some 10, none, .mv (.t 108)⟩] [6, 7, 8, 10])
           (.seq (.reg false [⟨some 109, none, .load (some 2) (.t 6)⟩, ⟨some 110, none, .load (some 2) (.t 7)⟩, ⟨some 111, none, .eqs [0, 0] false (.t 109) (.t 110)⟩, ⟨some 112, none, .mv (.t 111)⟩, ⟨some 113, (some (112, true)), .faddr 0 (.t 6)⟩, ⟨some 114, (some (112, true)), .load none (.t 113)⟩, ⟨some 115, (some (112, true)), .faddr 1 (.t 6)⟩, ⟨some 116, (some (112, true)), .load none (.t 115)⟩, ⟨some 117, (some (112, true)), .bin .eql (.t 114) (.t 116)⟩, ⟨some 118, none, .pick (.t 112) (.t 117) (.k (.bool false))⟩, ⟨some 119, none, .mv (.t 10)⟩, ⟨some 120, none, .un .not (.t 119)⟩, ⟨some 121, none, .pcall (.f 35) [.t 118, .t 120]⟩, ⟨none, none, .store 2 (.t 8) (.t 121)⟩] [8])
           .ret)) (.seq (.reg false [⟨some 123, none, .bin .eql (.t 11) (.k (.int .i64 15))⟩, ⟨some 122, none, .mv (.t 123)⟩] [5, 6, 7, 8, 11, 122])
           (.cond (.t 122) (.seq (.reg false [⟨some 124, none, .faddr 1 (.t 6)⟩, ⟨some 125, none, .load none (.t 124)⟩, ⟨some 126, none, .faddr 0 (.t 7)⟩, ⟨some 127, none, .load none (.t 126)⟩, ⟨some 128, none, .bin .lss (.t 125) (.t 127)⟩, ⟨some 129, none, .faddr 0 (.t 6)⟩, ⟨some 130, none, .load none (.t 129)⟩, ⟨some 131, none, .faddr 1 (.t 7)⟩, ⟨some 132, none, .load none (.t 131)⟩, ⟨some 133, none, .bin .geq (.t 130) (.t 132)⟩, ⟨some 134, none, .pcall (.f 35) [.t 128, .t 133]⟩, ⟨none, none, .store 2 (.t 8) (.t 134)⟩] [8])
            .ret) (.seq (.reg false [⟨some 136, none, .bin .eql (.t 11) (.k (.int .i64 16))⟩, ⟨some 135, none, .mv (.t 136)⟩] [5, 6, 7, 8, 11, 135])
            (.cond (.t 135) (.seq (.reg false [⟨some 137, none, .build [.d (.w 0#64), .d (.w 0#64)] [(0, 1, .k (.w 0#64)), (1, 1, .k (.w 1#64))]⟩, ⟨none, none, .store 2 (.t 8) (.t 137)⟩] [8])
             .ret) (.seq (.reg false [⟨some 139, none, .bin .eql (.t 11) (.k (.int .i64 17))⟩, ⟨some 138, none, .mv (.t 139)⟩] [5, 6, 7, 8, 11, 138])
             (.cond (.t 138) (.seq (.reg false [⟨some 140, none, .faddr 0 (.t 6)⟩, ⟨some 141, none, .load none (.t 140)⟩, ⟨some 142, none, .faddr 0 (.t 7)⟩, ⟨some 143, none, .load none (.t 142)⟩, ⟨some 144, none, .min (.t 141) (.t 143)⟩, ⟨some 145, none, .faddr 1 (.t 6)⟩, ⟨some 146, none, .load none (.t 145)⟩, ⟨some 147, none, .faddr 1 (.t 7)⟩, ⟨some 148, none, .load none (.t 147)⟩, ⟨some 149, none, .min (.t 146) (.t 148)⟩, ⟨some 150, none, .build [.d (.w 0#64), .d (.w 0#64)] [(0, 1, .t 144), (1, 1, .t 149)]⟩, ⟨none, none, .store 2 (.t 8) (.t 150)⟩] [8])
              .ret) (.seq (.reg false [⟨some 152, none, .bin .eql (.t 11) (.k (.int .i64 18))⟩, ⟨some 151, none, .mv (.t 152)⟩] [5, 6, 7, 8, 151])
              (.cond (.t 151) (.seq (.reg false [⟨some 153, none, .faddr 0 (.t 6)⟩, ⟨some 154, none, .load none (.t 153)⟩, ⟨some 155, none, .faddr 0 (.t 7)⟩, ⟨some 156, none, .load none (.t 155)⟩, ⟨some 157, none, .max (.t 154) (.t 156)⟩, ⟨some 158, none, .faddr 1 (.t 6)⟩, ⟨some 159, none, .load none (.t 158)⟩, ⟨some 160, none, .faddr 1 (.t 7)⟩, ⟨some 161, none, .load none (.t 160)⟩, ⟨some 162, none, .max (.t 159) (.t 161)⟩, ⟨some 163, none, .build [.d (.w 0#64), .d (.w 0#64)] [(0, 1, .t 157), (1, 1, .t 162)]⟩, ⟨none, none, .store 2 (.t 8) (.t 163)⟩] [8])
               .ret) .skip))))))))))))))))))))))))))))
 (.kp [(5, .keep), (8, .keep)] F36_t0)))
def F36 : AFunc := ⟨4, [.cell 8 (some 2)], [], F36_c⟩
/-- impl.spanOf -/
def F37_t0 : AC :=
 (.cond (.t 46) (.reg false [⟨some 49, none, .mv (.t 8)⟩, ⟨some 50, none, .faddr 1 (.t 10)⟩, ⟨some 51, none, .load none (.t 50)⟩, ⟨some 52, none, .faddr 1 (.t 10)⟩, ⟨some 53, none, .load none (.t 52)⟩, ⟨some 54, none, .build [.d (.w 0#64), .d (.w 0#64)] [(0, 1, .t 51), (1, 1, .t 53)]⟩, ⟨some 55, none, .bslice 2 [(.w 0#64), (.w 0#64)] 1 [(0, .t 54)]⟩, ⟨some 56, none, .append 2 (.t 49) (.t 55)⟩, ⟨some 8, none, .mv (.t 56)⟩] [2, 6, 7, 8, 16, 17, 18]) (.seq (.reg false [⟨some 58, none, .bin .eql (.t 26) (.k (.int .i64 2))⟩, ⟨some 57, none, .mv (.t 58)⟩] [2, 6, 7, 8, 10, 11, 16, 17, 18, 26, 57])
  (.cond (.t 57) (.reg false [⟨some 59, none, .mv (.t 8)⟩, ⟨some 60, none, .mv (.t 2)⟩, ⟨some 61, none, .faddr 1 (.t 10)⟩, ⟨some 62, none, .load none (.t 61)⟩, ⟨some 63, none, .iaddr 2 (.t 60) (.t 62)⟩, ⟨some 64, none, .load (some 2) (.t 63)⟩, ⟨some 65, none, .bslice 2 [(.w 0#64), (.w 0#64)] 1 [(0, .t 64)]⟩, ⟨some 66, none, .append 2 (.t 59) (.t 65)⟩, ⟨some 8, none, .mv (.t 66)⟩] [2, 6, 7, 8, 16, 17, 18]) (.seq (.reg false [⟨some 68, none, .bin .eql (.t 26) (.k (.int .i64 13))⟩, ⟨some 67, none, .mv (.t 68)⟩] [2, 6, 7, 8, 10, 11, 16, 17, 18, 26, 67])
   (.cond (.t 67) (.reg true [⟨some 69, none, .mv (.t 8)⟩, ⟨some 70, none, .mv (.t 11)⟩, ⟨some 71, none, .faddr 1 (.t 7)⟩, ⟨some 72, none, .load none (.t 71)⟩, ⟨some 73, none, .mv (.t 8)⟩, ⟨some 74, none, .mv (.t 11)⟩, ⟨some 75, none, .iaddr 2 (.t 73) (.t 74)⟩, ⟨some 76, none, .faddr 1 (.t 75)⟩, ⟨some 77, none, .load none (.t 76)⟩, ⟨some 78, none, .bin .sub (.t 72) (.t 77)⟩, ⟨some 79, none, .faddr 1 (.t 7)⟩, ⟨some 80, none, .load none (.t 79)⟩, ⟨some 81, none, .mv (.t 8)⟩, ⟨some 82, none, .mv (.t 11)⟩, ⟨some 83, none, .iaddr 2 (.t 81) (.t 82)⟩, ⟨some 84, none, .faddr 0 (.t 83)⟩, ⟨some 85, none, .load none (.t 84)⟩, ⟨some 86, none, .bin .sub (.t 80) (.t 85)⟩, ⟨some 87, none, .build [.d (.w 0#64), .d (.w 0#64)] [(0, 1, .t 78), (1, 1, .t 86)]⟩, ⟨some 88, none, .iaddr 2 (.t 69) (.t 70)⟩, ⟨none, none, .store 2 (.t 88) (.t 87)⟩] [2, 6, 7, 8, 16, 17, 18]) (.seq (.reg false [⟨some 90, none, .bin .eql (.t 26) (.k (.int .i64 19))⟩, ⟨some 89, none, .mv (.t 90)⟩] [2, 6, 7, 8, 10, 11, 16, 17, 18, 89])
    (.cond (.t 89) (.reg true [⟨some 91, none, .mv (.t 8)⟩, ⟨some 92, none, .mv (.t 11)⟩, ⟨some 93, none, .mv (.t 8)⟩, ⟨some 94, none, .mv (.t 11)⟩, ⟨some 95, none, .iaddr 2 (.t 93) (.t 94)⟩, ⟨some 96, none, .faddr 1 (.t 95)⟩, ⟨some 97, none, .load none (.t 96)⟩, ⟨some 98, none, .bin .sub (.k (.w 1#64)) (.t 97)⟩, ⟨some 99, none, .mv (.t 8)⟩, ⟨some 100, none, .mv (.t 11)⟩, ⟨some 101, none, .iaddr 2 (.t 99) (.t 100)⟩, ⟨some 102, none, .faddr 0 (.t 101)⟩, ⟨some 103, none, .load none (.t 102)⟩, ⟨some 104, none, .bin .sub (.k (.w 1#64)) (.t 103)⟩, ⟨some 105, none, .build [.d (.w 0#64), .d (.w 0#64)] [(0, 1, .t 98), (1, 1, .t 104)]⟩, ⟨some 106, none, .iaddr 2 (.t 91) (.t 92)⟩, ⟨none, none, .store 2 (.t 106) (.t 105)⟩] [2, 6, 7, 8, 16, 17, 18]) (.reg true [⟨some 27, none, .mv (.t 8)⟩, ⟨some 28, none, .mv (.t 11)⟩, ⟨some 29, none, .bin .sub (.t 28) (.k (.int .i64 1))⟩, ⟨some 30, none, .slice 2 (.t 27) none (some (.t 29))⟩, ⟨some 31, none, .faddr 0 (.t 10)⟩, ⟨some 32, none, .load none (.t 31)⟩, ⟨some 33, none, .load (some 2) (.t 7)⟩, ⟨some 34, none, .mv (.t 8)⟩, ⟨some 35, none, .mv (.t 11)⟩, ⟨some 36, none, .bin .sub (.t 35) (.k (.int .i64 1))⟩, ⟨some 37, none, .iaddr 2 (.t 34) (.t 36)⟩, ⟨some 38, none, .load (some 2) (.t 37)⟩, ⟨some 39, none, .mv (.t 8)⟩, ⟨some 40, none, .mv (.t 11)⟩, ⟨some 41, none, .iaddr 2 (.t 39) (.t 40)⟩, ⟨some 42, none, .load (some 2) (.t 41)⟩, ⟨some 43, none, .pcall (.f 36) [.t 32, .t 33, .t 38, .t 42]⟩, ⟨some 44, none, .bslice 2 [(.w 0#64), (.w 0#64)] 1 [(0, .t 43)]⟩, ⟨some 45, none, .append 2 (.t 30) (.t 44)⟩, ⟨some 8, none, .mv (.t 45)⟩] [2, 6, 7, 8, 16, 17, 18]))))))))
def F37_t1 : AC :=
 (.reg false [⟨some 107, none, .bin .add (.t 18) (.k (.int .i64 1))⟩, ⟨some 18, none, .mv (.t 107)⟩] [2, 6, 7, 8, 16, 17, 18])
def F37_b0 : AC := (.seq (.reg false [⟨some 19, none, .bin .lss (.t 18) (.t 17)⟩] [2, 6, 7, 8, 16, 17, 18, 19])
   (.seq (.cond (.t 19) .skip (.exit 0))
   (.seq (.block 1 (.seq (.reg false [⟨some 20, none, .iaddr 2 (.t 16) (.t 18)⟩, ⟨some 21, none, .load (some 2) (.t 20)⟩, ⟨some 10, none, .alloc [.d (.int .i64 0), .d (.w 0#64)]⟩, ⟨none, none, .store 2 (.t 10) (.t 21)⟩] [2, 6, 7, 8, 10, 16, 17, 18])
    (.seq (.reg false [⟨some 22, none, .mv (.t 8)⟩, ⟨some 23, none, .len (.t 22)⟩, ⟨some 24, none, .bin .sub (.t 23) (.k (.int .i64 1))⟩, ⟨some 11, none, .mv (.t 24)⟩] [2, 6, 7, 8, 10, 11, 16, 17, 18])
    (.seq (.reg false [⟨some 25, none, .faddr 0 (.t 10)⟩, ⟨some 26, none, .load none (.t 25)⟩] [2, 6, 7, 8, 10, 11, 16, 17, 18, 26])
    (.block 2 (.seq (.seq (.reg false [⟨some 47, none, .bin .eql (.t 26) (.k (.int .i64 1))⟩, ⟨some 46, none, .mv (.t 47)⟩] [2, 6, 7, 8, 10, 11, 16, 17, 18, 26, 46])
     (.cond (.t 46) .skip (.reg false [⟨some 48, none, .bin .eql (.t 26) (.k (.int .i64 20))⟩, ⟨some 46, none, .mv (.t 48)⟩] [2, 6, 7, 8, 10, 11, 16, 17, 18, 26, 46])))
     (.kp [(2, .keep), (6, .keep), (7, .keep), (8, .keep), (10, .keep), (11, .keep), (16, .keep), (17, .keep), (18, .keep), (26, .keep), (46, .keep)] F37_t0)))))))
   (.kp [(2, .keep), (6, .keep), (7, .keep), (8, .keep), (16, .keep), (17, .keep), (18, .keep)] F37_t1))))
def F37_l0 : AC := F37_b0
@[simp] theorem u37_0 (T : Nat → Option AFunc) (X : Orc) (F : AFunc) (m : Nat) (K : List AT) (e : Env) (st : St) : go T X F m (.code F37_l0 :: K) e st = go T X F m (.code F37_b0 :: K) e st := rfl
def F37_t2 : AC :=
 (.seq (.reg false [⟨some 108, none, .mv (.t 8)⟩, ⟨some 109, none, .iaddr 2 (.t 108) (.k (.int .i64 0))⟩, ⟨some 110, none, .load (some 2) (.t 109)⟩, ⟨none, none, .store 2 (.t 6) (.t 110)⟩] [6])
 .ret)
def F37_c : AC :=
 (.seq (.reg false [⟨some 6, none, .alloc [.d (.w 0#64), .d (.w 0#64)]⟩] [0, 1, 2, 6])
 (.seq (.reg false [⟨some 12, none, .mv (.t 0)⟩, ⟨some 13, none, .pcall (.f 19) [.t 12]⟩, ⟨some 14, none, .build [.d (.w 0#64), .d (.w 0#64)] [(0, 1, .k (.w 0#64)), (1, 1, .t 13)]⟩, ⟨some 15, none, .bslice 2 [(.w 0#64), (.w 0#64)] 0 []⟩, ⟨some 7, none, .alloc [.d (.w 0#64), .d (.w 0#64)]⟩, ⟨none, none, .store 2 (.t 7) (.t 14)⟩, ⟨some 8, none, .mv (.t 15)⟩] [1, 2, 6, 7, 8])
 (.seq (.seq (.reg false [⟨some 16, none, .mv (.t 1)⟩, ⟨some 17, none, .len (.t 16)⟩, ⟨some 18, none, .mv (.k (.int .i64 0))⟩] [2, 6, 7, 8, 16, 17, 18])
 (.block 0 (.loop [(2, .keep), (6, .keep), (7, .keep), (8, .ow 2), (16, .keep), (17, .keep), (18, .keep)] F37_l0)))
 (.kp [(6, .keep), (8, .keep)] F37_t2))))
def F37 : AFunc := ⟨3, [.cell 6 (some 2)], [], F37_c⟩
/-- impl.SpanOf -/
def F38_c : AC :=
 (.seq (.reg false [⟨some 6, none, .alloc [.d (.w 0#64), .d (.w 0#64)]⟩, ⟨some 7, none, .mv (.k (.bool false))⟩] [0, 1, 2, 6])
 (.seq (.seq (.reg false [⟨some 8, none, .mv (.t 0)⟩, ⟨some 9, none, .mv (.t 2)⟩, ⟨some 10, none, .lcall (.f 23) [.t 8, .t 9]⟩, ⟨some 11, none, .un .not (.t 10)⟩, ⟨some 12, none, .mv (.t 11)⟩, ⟨some 13, (some (12, false)), .mv (.t 0)⟩, ⟨some 14, (some (12, false)), .mv (.t 2)⟩, ⟨some 15, (some (12, false)), .len (.t 14)⟩, ⟨some 16, (some (12, false)), .mv (.t 1)⟩, ⟨some 17, (some (12, false)), .lcall (.f 29) [.t 13, .t 15, .t 16]⟩, ⟨some 18, (some (12, false)), .un .not (.t 17)⟩, ⟨some 19, none, .pick (.t 12) (.k (.bool true)) (.t 18)⟩] [0, 1, 2, 6, 19])
 (.cond (.t 19) (.seq (.reg false [⟨some 20, none, .build [.d (.w 0#64), .d (.w 0#64)] []⟩, ⟨none, none, .store 2 (.t 6) (.t 20)⟩, ⟨some 7, none, .mv (.k (.bool false))⟩] [6, 7])
  .ret) .skip))
 (.seq (.reg false [⟨some 21, none, .mv (.t 0)⟩, ⟨some 22, none, .mv (.t 1)⟩, ⟨some 23, none, .mv (.t 2)⟩, ⟨some 24, none, .lcall (.f 37) [.t 21, .t 22, .t 23]⟩, ⟨none, none, .store 2 (.t 6) (.t 24)⟩, ⟨some 7, none, .mv (.k (.bool true))⟩] [6, 7])
 .ret)))
def F38 : AFunc := ⟨3, [.cell 6 (some 2), .t 7], [], F38_c⟩
/-- spec.l1In -/
def F39_c : AC :=
 (.seq (.reg false [⟨some 6, none, .mv (.k (.bool false))⟩] [0, 1, 2])
 (.seq (.reg false [⟨some 7, none, .mv (.t 0)⟩, ⟨some 8, none, .mv (.t 1)⟩, ⟨some 9, none, .bin .geq (.t 7) (.t 8)⟩, ⟨some 10, none, .mv (.t 9)⟩, ⟨some 11, (some (10, true)), .mv (.t 0)⟩, ⟨some 12, (some (10, true)), .mv (.t 2)⟩, ⟨some 13, (some (10, true)), .bin .leq (.t 11) (.t 12)⟩, ⟨some 14, none, .pick (.t 10) (.t 13) (.k (.bool false))⟩, ⟨some 6, none, .mv (.t 14)⟩] [6])
 .ret))
def F39 : AFunc := ⟨3, [.t 6], [], F39_c⟩
/-- spec.l2Need -/
def F40_c : AC :=
 (.seq (.reg false [⟨some 2, none, .mv (.k (.int .i64 0))⟩, ⟨some 3, none, .mv (.k (.int .i64 0))⟩, ⟨some 4, none, .mv (.k (.int .i64 0))⟩] [0])
 (.seq (.block 0 (.seq (.reg false [⟨some 6, none, .mv (.t 0)⟩, ⟨some 7, none, .bin .eql (.t 6) (.k (.int .i64 1))⟩, ⟨some 8, none, .mv (.t 7)⟩, ⟨some 9, (some (8, false)), .mv (.t 0)⟩, ⟨some 10, (some (8, false)), .bin .eql (.t 9) (.k (.int .i64 2))⟩, ⟨some 11, none, .pick (.t 8) (.k (.bool true)) (.t 10)⟩, ⟨some 5, none, .mv (.t 11)⟩] [0, 5])
  (.cond (.t 5) (.seq (.reg false [⟨some 2, none, .mv (.k (.int .i64 0))⟩, ⟨some 3, none, .mv (.k (.int .i64 1))⟩, ⟨some 4, none, .mv (.k (.int .i64 1))⟩] [2, 3, 4])
   .ret) (.seq (.reg false [⟨some 13, none, .mv (.t 0)⟩, ⟨some 14, none, .bin .eql (.t 13) (.k (.int .i64 20))⟩, ⟨some 12, none, .mv (.t 14)⟩] [0, 12])
   (.cond (.t 12) (.seq (.reg false [⟨some 2, none, .mv (.k (.int .i64 0))⟩, ⟨some 3, none, .mv (.k (.int .i64 2))⟩, ⟨some 4, none, .mv (.k (.int .i64 2))⟩] [2, 3, 4])
    .ret) (.seq (.reg false [⟨some 16, none, .mv (.t 0)⟩, ⟨some 17, none, .bin .eql (.t 16) (.k (.int .i64 13))⟩, ⟨some 15, none, .mv (.t 17)⟩] [0, 15])
    (.cond (.t 15) (.seq (.reg false [⟨some 2, none, .mv (.k (.int .i64 1))⟩, ⟨some 3, none, .mv (.k (.int .i64 1))⟩, ⟨some 4, none, .mv (.k (.int .i64 1))⟩] [2, 3, 4])
     .ret) (.seq (.reg false [⟨some 19, none, .mv (.t 0)⟩, ⟨some 20, none, .bin .eql (.t 19) (.k (.int .i64 19))⟩, ⟨some 18, none, .mv (.t 20)⟩] [0, 18])
     (.cond (.t 18) (.seq (.reg false [⟨some 2, none, .mv (.k (.int .i64 1))⟩, ⟨some 3, none, .mv (.k (.int .i64 2))⟩, ⟨some 4, none, .mv (.k (.int .i64 2))⟩] [2, 3, 4])
      .ret) (.seq (.reg false [⟨some 22, none, .mv (.t 0)⟩, ⟨some 23, none, .pcall (.f 39) [.t 22, .k (.int .i64 3), .k (.int .i64 12)]⟩, ⟨some 21, none, .mv (.t 23)⟩] [0, 21])
      (.cond (.t 21) (.seq (.reg false [⟨some 2, none, .mv (.k (.int .i64 2))⟩, ⟨some 3, none, .mv (.k (.int .i64 1))⟩, ⟨some 4, none, .mv (.k (.int .i64 1))⟩] [2, 3, 4])
       .ret) (.seq (.reg false [⟨some 25, none, .mv (.t 0)⟩, ⟨some 26, none, .pcall (.f 39) [.t 25, .k (.int .i64 14), .k (.int .i64 16)]⟩, ⟨some 24, none, .mv (.t 26)⟩] [0, 24])
       (.cond (.t 24) (.seq (.reg false [⟨some 2, none, .mv (.k (.int .i64 2))⟩, ⟨some 3, none, .mv (.k (.int .i64 1))⟩, ⟨some 4, none, .mv (.k (.int .i64 2))⟩] [2, 3, 4])
        .ret) (.seq (.reg false [⟨some 28, none, .mv (.t 0)⟩, ⟨some 29, none, .bin .eql (.t 28) (.k (.int .i64 17))⟩, ⟨some 30, none, .mv (.t 29)⟩, ⟨some 31, (some (30, false)), .mv (.t 0)⟩, ⟨some 32, (some (30, false)), .bin .eql (.t 31) (.k (.int .i64 18))⟩, ⟨some 33, none, .pick (.t 30) (.k (.bool true)) (.t 32)⟩, ⟨some 27, none, .mv (.t 33)⟩] [27])
        (.cond (.t 27) (.seq (.reg false [⟨some 2, none, .mv (.k (.int .i64 2))⟩, ⟨some 3, none, .mv (.k (.int .i64 2))⟩, ⟨some 4, none, .mv (.k (.int .i64 2))⟩] [2, 3, 4])
         .ret) .skip)))))))))))))))
 (.seq (.reg false [⟨some 2, none, .mv (.k (.int .i64 0))⟩, ⟨some 3, none, .mv (.k (.int .i64 0))⟩, ⟨some 4, none, .mv (.k (.int .i64 0))⟩] [2, 3, 4])
 .ret)))
def F40 : AFunc := ⟨1, [.t 2, .t 3, .t 4], [], F40_c⟩
/-- spec.l1Wide -/
def F41_c : AC :=
 (.seq (.reg false [⟨some 2, none, .mv (.k (.bool false))⟩] [0])
 (.seq (.reg false [⟨some 3, none, .mv (.t 0)⟩, ⟨some 4, none, .pcall (.f 39) [.t 3, .k (.int .i64 1), .k (.int .i64 64)]⟩, ⟨some 2, none, .mv (.t 4)⟩] [2])
 .ret))
def F41 : AFunc := ⟨1, [.t 2], [], F41_c⟩
/-- spec.GoodWord -/
def F42_c : AC :=
 (.seq (.reg false [⟨some 4, none, .mv (.k (.bool false))⟩] [0, 1])
 (.seq (.reg false [⟨some 5, none, .mv (.t 0)⟩, ⟨some 6, none, .pcall (.f 41) [.t 5]⟩, ⟨some 7, none, .mv (.t 6)⟩, ⟨some 8, (some (7, true)), .mv (.t 0)⟩, ⟨some 9, (some (7, true)), .mv (.t 1)⟩, ⟨some 10, (some (7, true)), .pcall (.f 6) [.t 8, .t 9]⟩, ⟨some 11, (some (7, true)), .mv (.t 1)⟩, ⟨some 12, (some (7, true)), .bin .eql (.t 10) (.t 11)⟩, ⟨some 13, none, .pick (.t 7) (.t 12) (.k (.bool false))⟩, ⟨some 4, none, .mv (.t 13)⟩] [4])
 .ret))
def F42 : AFunc := ⟨2, [.t 4], [], F42_c⟩
/-- spec.l2N -/
def F43_c : AC :=
 (.seq (.reg false [⟨some 5, none, .box (.t 2)⟩, ⟨some 6, none, .mv (.k (.bool false))⟩] [0, 1, 5])
 (.seq (.seq (.reg false [⟨some 7, none, .faddr 0 (.t 5)⟩, ⟨some 8, none, .load none (.t 7)⟩] [0, 1, 5, 8])
 (.block 0 (.seq (.reg false [⟨some 10, none, .bin .eql (.t 8) (.k (.int .i64 1))⟩, ⟨some 9, none, .mv (.t 10)⟩] [0, 1, 5, 8, 9])
  (.cond (.t 9) (.seq (.reg false [⟨some 11, none, .mv (.t 0)⟩, ⟨some 12, none, .faddr 1 (.t 5)⟩, ⟨some 13, none, .load none (.t 12)⟩, ⟨some 14, none, .pcall (.f 42) [.t 11, .t 13]⟩, ⟨some 6, none, .mv (.t 14)⟩] [6])
   .ret) (.seq (.reg false [⟨some 16, none, .bin .eql (.t 8) (.k (.int .i64 2))⟩, ⟨some 15, none, .mv (.t 16)⟩] [1, 5, 8, 15])
   (.cond (.t 15) (.seq (.reg false [⟨some 17, none, .faddr 1 (.t 5)⟩, ⟨some 18, none, .load none (.t 17)⟩, ⟨some 19, none, .mv (.t 1)⟩, ⟨some 20, none, .conv .u64 (.t 19)⟩, ⟨some 21, none, .bin .lss (.t 18) (.t 20)⟩, ⟨some 6, none, .mv (.t 21)⟩] [6])
    .ret) (.seq (.reg false [⟨some 23, none, .bin .eql (.t 8) (.k (.int .i64 20))⟩, ⟨some 22, none, .mv (.t 23)⟩] [5, 22])
    (.cond (.t 22) (.seq (.reg false [⟨some 24, none, .faddr 1 (.t 5)⟩, ⟨some 25, none, .load none (.t 24)⟩, ⟨some 26, none, .bin .lss (.t 25) (.k (.w 2#64))⟩, ⟨some 6, none, .mv (.t 26)⟩] [6])
     .ret) .skip))))))))
 (.seq (.reg false [⟨some 27, none, .faddr 1 (.t 5)⟩, ⟨some 28, none, .load none (.t 27)⟩, ⟨some 29, none, .bin .eql (.t 28) (.k (.w 0#64))⟩, ⟨some 6, none, .mv (.t 29)⟩] [6])
 .ret)))
def F43 : AFunc := ⟨3, [.t 6], [], F43_c⟩
/-- spec.l2Kind -/
def F44_b0 : AC := (.seq (.seq (.reg false [⟨some 55, none, .mv (.t 10)⟩, ⟨some 56, none, .bin .gtr (.t 55) (.k (.int .i64 0))⟩] [0, 1, 7, 10, 11, 12, 27, 28, 29, 56])
      (.cond (.t 56) .skip (.exit 2)))
      (.seq (.block 3 (.seq (.seq (.reg false [⟨some 59, none, .mv (.t 7)⟩, ⟨some 60, none, .mv (.t 7)⟩, ⟨some 61, none, .len (.t 60)⟩, ⟨some 62, none, .bin .sub (.t 61) (.k (.int .i64 1))⟩, ⟨some 63, none, .iaddr 1 (.t 59) (.t 62)⟩, ⟨some 64, none, .load none (.t 63)⟩, ⟨some 65, none, .mv (.t 11)⟩, ⟨some 66, none, .bin .neq (.t 64) (.t 65)⟩] [0, 1, 7, 10, 11, 12, 27, 28, 29, 66])
       (.cond (.t 66) (.seq (.reg false [⟨some 6, none, .mv (.k (.int .i64 0))⟩] [6])
        .ret) .skip))
       (.reg false [⟨some 67, none, .mv (.t 7)⟩, ⟨some 68, none, .mv (.t 7)⟩, ⟨some 69, none, .len (.t 68)⟩, ⟨some 70, none, .bin .sub (.t 69) (.k (.int .i64 1))⟩, ⟨some 71, none, .slice 1 (.t 67) none (some (.t 70))⟩, ⟨some 7, none, .mv (.t 71)⟩] [0, 1, 7, 10, 11, 12, 27, 28, 29])))
      (.reg false [⟨some 57, none, .mv (.t 10)⟩, ⟨some 58, none, .bin .sub (.t 57) (.k (.int .i64 1))⟩, ⟨some 10, none, .mv (.t 58)⟩] [0, 1, 7, 10, 11, 12, 27, 28, 29])))
def F44_l0 : AC := F44_b0
@[simp] theorem u44_0 (T : Nat → Option AFunc) (X : Orc) (F : AFunc) (m : Nat) (K : List AT) (e : Env) (st : St) : go T X F m (.code F44_l0 :: K) e st = go T X F m (.code F44_b0 :: K) e st := rfl
def F44_t0 : AC :=
 (.reg false [⟨some 72, none, .mv (.t 7)⟩, ⟨some 73, none, .mv (.t 12)⟩, ⟨some 74, none, .bslice 1 [(.int .i64 0)] 1 [(0, .t 73)]⟩, ⟨some 75, none, .append 1 (.t 72) (.t 74)⟩, ⟨some 7, none, .mv (.t 75)⟩] [0, 1, 7, 27, 28, 29])
def F44_t1 : AC :=
 (.reg false [⟨some 76, none, .bin .add (.t 29) (.k (.int .i64 1))⟩, ⟨some 29, none, .mv (.t 76)⟩] [0, 1, 7, 27, 28, 29])
def F44_b1 : AC := (.seq (.reg false [⟨some 30, none, .bin .lss (.t 29) (.t 28)⟩] [0, 1, 7, 27, 28, 29, 30])
   (.seq (.cond (.t 30) .skip (.exit 0))
   (.seq (.block 1 (.seq (.reg false [⟨some 31, none, .iaddr 2 (.t 27) (.t 29)⟩, ⟨some 32, none, .load (some 2) (.t 31)⟩, ⟨some 9, none, .alloc [.d (.int .i64 0), .d (.w 0#64)]⟩, ⟨none, none, .store 2 (.t 9) (.t 32)⟩] [0, 1, 7, 9, 27, 28, 29])
    (.seq (.reg false [⟨some 34, none, .faddr 0 (.t 9)⟩, ⟨some 35, none, .load none (.t 34)⟩, ⟨some 36, none, .pcall (.f 40) [.t 35]⟩, ⟨some 33, none, .mv (.t 36)⟩, ⟨some 37, none, .ext (.t 33) 0⟩, ⟨some 38, none, .ext (.t 33) 1⟩, ⟨some 39, none, .ext (.t 33) 2⟩, ⟨some 10, none, .mv (.t 37)⟩, ⟨some 11, none, .mv (.t 38)⟩, ⟨some 12, none, .mv (.t 39)⟩] [0, 1, 7, 9, 10, 11, 12, 27, 28, 29])
    (.seq (.seq (.reg false [⟨some 40, none, .mv (.t 12)⟩, ⟨some 41, none, .bin .eql (.t 40) (.k (.int .i64 0))⟩, ⟨some 42, none, .mv (.t 41)⟩, ⟨some 43, (some (42, false)), .mv (.t 0)⟩, ⟨some 44, (some (42, false)), .mv (.t 1)⟩, ⟨some 45, (some (42, false)), .load (some 2) (.t 9)⟩, ⟨some 46, (some (42, false)), .pcall (.f 43) [.t 43, .t 44, .t 45]⟩, ⟨some 47, (some (42, false)), .un .not (.t 46)⟩, ⟨some 48, none, .pick (.t 42) (.k (.bool true)) (.t 47)⟩, ⟨some 49, none, .mv (.t 48)⟩, ⟨some 50, (some (49, false)), .mv (.t 7)⟩, ⟨some 51, (some (49, false)), .len (.t 50)⟩, ⟨some 52, (some (49, false)), .mv (.t 10)⟩, ⟨some 53, (some (49, false)), .bin .lss (.t 51) (.t 52)⟩, ⟨some 54, none, .pick (.t 49) (.k (.bool true)) (.t 53)⟩] [0, 1, 7, 10, 11, 12, 27, 28, 29, 54])
    (.cond (.t 54) (.seq (.reg false [⟨some 6, none, .mv (.k (.int .i64 0))⟩] [6])
     .ret) .skip))
    (.seq (.block 2 (.loop [(0, .keep), (1, .keep), (7, .keep), (10, .keep), (11, .keep), (12, .keep), (27, .keep), (28, .keep), (29, .keep)] F44_l0))
    (.kp [(0, .keep), (1, .keep), (7, .keep), (12, .keep), (27, .keep), (28, .keep), (29, .keep)] F44_t0))))))
   (.kp [(0, .keep), (1, .keep), (7, .keep), (27, .keep), (28, .keep), (29, .keep)] F44_t1))))
def F44_l1 : AC := F44_b1
@[simp] theorem u44_1 (T : Nat → Option AFunc) (X : Orc) (F : AFunc) (m : Nat) (K : List AT) (e : Env) (st : St) : go T X F m (.code F44_l1 :: K) e st = go T X F m (.code F44_b1 :: K) e st := rfl
def F44_t2 : AC :=
 (.seq (.seq (.reg false [⟨some 77, none, .mv (.t 7)⟩, ⟨some 78, none, .len (.t 77)⟩, ⟨some 79, none, .bin .neq (.t 78) (.k (.int .i64 1))⟩] [7, 79])
 (.cond (.t 79) (.seq (.reg false [⟨some 6, none, .mv (.k (.int .i64 0))⟩] [6])
  .ret) .skip))
 (.seq (.reg false [⟨some 80, none, .mv (.t 7)⟩, ⟨some 81, none, .iaddr 1 (.t 80) (.k (.int .i64 0))⟩, ⟨some 82, none, .load none (.t 81)⟩, ⟨some 6, none, .mv (.t 82)⟩] [6])
 .ret))
def F44_c : AC :=
 (.seq (.reg false [⟨some 6, none, .mv (.k (.int .i64 0))⟩] [0, 1, 2])
 (.seq (.seq (.reg false [⟨some 13, none, .mv (.t 0)⟩, ⟨some 14, none, .pcall (.f 41) [.t 13]⟩, ⟨some 15, none, .un .not (.t 14)⟩, ⟨some 16, none, .mv (.t 15)⟩, ⟨some 17, (some (16, false)), .mv (.t 1)⟩, ⟨some 18, (some (16, false)), .pcall (.f 39) [.t 17, .k (.int .i64 1), .k (.int .i64 4)]⟩, ⟨some 19, (some (16, false)), .un .not (.t 18)⟩, ⟨some 20, none, .pick (.t 16) (.k (.bool true)) (.t 19)⟩, ⟨some 21, none, .mv (.t 20)⟩, ⟨some 22, (some (21, false)), .mv (.t 2)⟩, ⟨some 23, (some (21, false)), .len (.t 22)⟩, ⟨some 24, (some (21, false)), .pcall (.f 39) [.t 23, .k (.int .i64 1), .k (.int .i64 48)]⟩, ⟨some 25, (some (21, false)), .un .not (.t 24)⟩, ⟨some 26, none, .pick (.t 21) (.k (.bool true)) (.t 25)⟩] [0, 1, 2, 26])
 (.cond (.t 26) (.seq (.reg false [⟨some 6, none, .mv (.k (.int .i64 0))⟩] [6])
  .ret) .skip))
 (.seq (.reg false [⟨some 7, none, .mv (.k .nil)⟩] [0, 1, 2, 7])
 (.seq (.seq (.reg false [⟨some 27, none, .mv (.t 2)⟩, ⟨some 28, none, .len (.t 27)⟩, ⟨some 29, none, .mv (.k (.int .i64 0))⟩] [0, 1, 7, 27, 28, 29])
 (.block 0 (.loop [(0, .keep), (1, .keep), (7, .ow 1), (27, .keep), (28, .keep), (29, .keep)] F44_l1)))
 (.kp [(7, .keep)] F44_t2)))))
def F44 : AFunc := ⟨3, [.t 6], [], F44_c⟩
/-- spec.GoodTerm -/
def F45_c : AC :=
 (.seq (.reg false [⟨some 6, none, .mv (.k (.bool false))⟩] [0, 1, 2])
 (.seq (.reg false [⟨some 7, none, .mv (.t 0)⟩, ⟨some 8, none, .mv (.t 1)⟩, ⟨some 9, none, .mv (.t 2)⟩, ⟨some 10, none, .lcall (.f 44) [.t 7, .t 8, .t 9]⟩, ⟨some 11, none, .bin .gtr (.t 10) (.k (.int .i64 0))⟩, ⟨some 6, none, .mv (.t 11)⟩] [6])
 .ret))
def F45 : AFunc := ⟨3, [.t 6], [], F45_c⟩
/-- spec.l1Both -/
def F46_c : AC :=
 (.seq (.reg false [⟨some 6, none, .mv (.k (.bool false))⟩] [0, 1, 2])
 (.seq (.reg false [⟨some 7, none, .mv (.t 0)⟩, ⟨some 8, none, .mv (.t 1)⟩, ⟨some 9, none, .pcall (.f 42) [.t 7, .t 8]⟩, ⟨some 10, none, .mv (.t 9)⟩, ⟨some 11, (some (10, true)), .mv (.t 0)⟩, ⟨some 12, (some (10, true)), .mv (.t 2)⟩, ⟨some 13, (some (10, true)), .pcall (.f 42) [.t 11, .t 12]⟩, ⟨some 14, none, .pick (.t 10) (.t 13) (.k (.bool false))⟩, ⟨some 6, none, .mv (.t 14)⟩] [6])
 .ret))
def F46 : AFunc := ⟨3, [.t 6], [], F46_c⟩
/-- spec.GoodSpan -/
def F47_c : AC :=
 (.seq (.reg false [⟨some 3, none, .box (.t 1)⟩, ⟨some 4, none, .mv (.k (.bool false))⟩] [0, 3])
 (.seq (.reg false [⟨some 5, none, .mv (.t 0)⟩, ⟨some 6, none, .faddr 0 (.t 3)⟩, ⟨some 7, none, .load none (.t 6)⟩, ⟨some 8, none, .faddr 1 (.t 3)⟩, ⟨some 9, none, .load none (.t 8)⟩, ⟨some 10, none, .pcall (.f 46) [.t 5, .t 7, .t 9]⟩, ⟨some 11, none, .mv (.t 10)⟩, ⟨some 12, (some (11, true)), .faddr 0 (.t 3)⟩, ⟨some 13, (some (11, true)), .load none (.t 12)⟩, ⟨some 14, (some (11, true)), .faddr 1 (.t 3)⟩, ⟨some 15, (some (11, true)), .load none (.t 14)⟩, ⟨some 16, (some (11, true)), .bin .leq (.t 13) (.t 15)⟩, ⟨some 17, none, .pick (.t 11) (.t 16) (.k (.bool false))⟩, ⟨some 4, none, .mv (.t 17)⟩] [4])
 .ret))
def F47 : AFunc := ⟨2, [.t 4], [], F47_c⟩
/-- spec.l18Spans -/
def F48_b0 : AC := (.seq (.reg false [⟨some 14, none, .bin .lss (.t 13) (.t 12)⟩] [0, 11, 12, 13, 14])
   (.seq (.cond (.t 14) .skip (.exit 0))
   (.seq (.block 1 (.seq (.reg false [⟨some 15, none, .iaddr 2 (.t 11) (.t 13)⟩, ⟨some 16, none, .load (some 2) (.t 15)⟩, ⟨some 6, none, .alloc [.d (.w 0#64), .d (.w 0#64)]⟩, ⟨none, none, .store 2 (.t 6) (.t 16)⟩] [0, 6, 11, 12, 13])
    (.seq (.reg false [⟨some 17, none, .mv (.t 0)⟩, ⟨some 18, none, .load (some 2) (.t 6)⟩, ⟨some 19, none, .pcall (.f 47) [.t 17, .t 18]⟩, ⟨some 20, none, .un .not (.t 19)⟩] [0, 11, 12, 13, 20])
    (.cond (.t 20) (.seq (.reg false [⟨some 4, none, .mv (.k (.bool false))⟩] [4])
     .ret) .skip))))
   (.reg false [⟨some 21, none, .bin .add (.t 13) (.k (.int .i64 1))⟩, ⟨some 13, none, .mv (.t 21)⟩] [0, 11, 12, 13]))))
def F48_l0 : AC := F48_b0
@[simp] theorem u48_0 (T : Nat → Option AFunc) (X : Orc) (F : AFunc) (m : Nat) (K : List AT) (e : Env) (st : St) : go T X F m (.code F48_l0 :: K) e st = go T X F m (.code F48_b0 :: K) e st := rfl
def F48_t0 : AC :=
 (.seq (.reg false [⟨some 4, none, .mv (.k (.bool true))⟩] [4])
 .ret)
def F48_c : AC :=
 (.seq (.reg false [⟨some 4, none, .mv (.k (.bool false))⟩] [0, 1])
 (.seq (.seq (.reg false [⟨some 7, none, .mv (.t 1)⟩, ⟨some 8, none, .len (.t 7)⟩, ⟨some 9, none, .pcall (.f 39) [.t 8, .k (.int .i64 1), .k (.int .i64 4)]⟩, ⟨some 10, none, .un .not (.t 9)⟩] [0, 1, 10])
 (.cond (.t 10) (.seq (.reg false [⟨some 4, none, .mv (.k (.bool false))⟩] [4])
  .ret) .skip))
 (.seq (.seq (.reg false [⟨some 11, none, .mv (.t 1)⟩, ⟨some 12, none, .len (.t 11)⟩, ⟨some 13, none, .mv (.k (.int .i64 0))⟩] [0, 11, 12, 13])
 (.block 0 (.loop [(0, .keep), (11, .keep), (12, .keep), (13, .keep)] F48_l0)))
 (.kp [] F48_t0))))
def F48 : AFunc := ⟨2, [.t 4], [], F48_c⟩
/-- spec.l2From -/
def F49_b0 : AC := (.seq (.seq (.reg false [⟨some 20, none, .mv (.t 5)⟩, ⟨some 21, none, .bin .gtr (.t 20) (.k (.int .i64 0))⟩] [0, 5, 8, 21])
   (.cond (.t 21) .skip (.exit 0)))
   (.seq (.block 1 (.reg false [⟨some 24, none, .mv (.t 0)⟩, ⟨some 25, none, .mv (.t 8)⟩, ⟨some 26, none, .bin .sub (.t 25) (.k (.int .i64 1))⟩, ⟨some 27, none, .lcall (.f 49) [.t 24, .t 26]⟩, ⟨some 8, none, .mv (.t 27)⟩] [0, 5, 8]))
   (.reg false [⟨some 22, none, .mv (.t 5)⟩, ⟨some 23, none, .bin .sub (.t 22) (.k (.int .i64 1))⟩, ⟨some 5, none, .mv (.t 23)⟩] [0, 5, 8])))
def F49_l0 : AC := F49_b0
@[simp] theorem u49_0 (T : Nat → Option AFunc) (X : Orc) (F : AFunc) (m : Nat) (K : List AT) (e : Env) (st : St) : go T X F m (.code F49_l0 :: K) e st = go T X F m (.code F49_b0 :: K) e st := rfl
def F49_t0 : AC :=
 (.seq (.reg false [⟨some 28, none, .mv (.t 8)⟩, ⟨some 4, none, .mv (.t 28)⟩] [4])
 .ret)
def F49_c : AC :=
 (.seq (.reg false [⟨some 4, none, .mv (.k (.int .i64 0))⟩] [0, 1])
 (.seq (.reg false [⟨some 10, none, .mv (.t 0)⟩, ⟨some 11, none, .mv (.t 1)⟩, ⟨some 12, none, .iaddr 2 (.t 10) (.t 11)⟩, ⟨some 13, none, .faddr 0 (.t 12)⟩, ⟨some 14, none, .load none (.t 13)⟩, ⟨some 15, none, .pcall (.f 40) [.t 14]⟩, ⟨some 9, none, .mv (.t 15)⟩, ⟨some 16, none, .ext (.t 9) 0⟩, ⟨some 17, none, .ext (.t 9) 1⟩, ⟨some 18, none, .ext (.t 9) 2⟩, ⟨some 5, none, .mv (.t 16)⟩, ⟨some 6, none, .mv (.t 17)⟩, ⟨some 7, none, .mv (.t 18)⟩] [0, 1, 5])
 (.seq (.reg false [⟨some 19, none, .mv (.t 1)⟩, ⟨some 8, none, .mv (.t 19)⟩] [0, 5, 8])
 (.seq (.block 0 (.loop [(0, .keep), (5, .keep), (8, .keep)] F49_l0))
 (.kp [(8, .keep)] F49_t0)))))
def F49 : AFunc := ⟨2, [.t 4], [], F49_c⟩
/-- spec.l18Most -/
def F50_c : AC :=
 (.seq (.reg false [⟨some 4, none, .mv (.k (.w 0#64))⟩] [0, 1])
 (.seq (.seq (.reg false [⟨some 5, none, .mv (.t 0)⟩, ⟨some 6, none, .mv (.t 1)⟩, ⟨some 7, none, .bin .gtr (.t 5) (.t 6)⟩] [0, 1, 7])
 (.cond (.t 7) (.seq (.reg false [⟨some 8, none, .mv (.t 0)⟩, ⟨some 4, none, .mv (.t 8)⟩] [4])
  .ret) .skip))
 (.seq (.reg false [⟨some 9, none, .mv (.t 1)⟩, ⟨some 4, none, .mv (.t 9)⟩] [4])
 .ret)))
def F50 : AFunc := ⟨2, [.t 4], [], F50_c⟩
/-- spec.l18Least -/
def F51_c : AC :=
 (.seq (.reg false [⟨some 4, none, .mv (.k (.w 0#64))⟩] [0, 1])
 (.seq (.seq (.reg false [⟨some 5, none, .mv (.t 0)⟩, ⟨some 6, none, .mv (.t 1)⟩, ⟨some 7, none, .bin .lss (.t 5) (.t 6)⟩] [0, 1, 7])
 (.cond (.t 7) (.seq (.reg false [⟨some 8, none, .mv (.t 0)⟩, ⟨some 4, none, .mv (.t 8)⟩] [4])
  .ret) .skip))
 (.seq (.reg false [⟨some 9, none, .mv (.t 1)⟩, ⟨some 4, none, .mv (.t 9)⟩] [4])
 .ret)))
def F51 : AFunc := ⟨2, [.t 4], [], F51_c⟩
/-- spec.l18Fits -/
def F52_c : AC :=
 (.seq (.reg false [⟨some 6, none, .mv (.k (.bool false))⟩] [0, 1, 2])
 (.seq (.reg false [⟨some 7, none, .mv (.t 2)⟩, ⟨some 8, none, .bin .eql (.t 7) (.k (.w 0#64))⟩, ⟨some 9, none, .mv (.t 8)⟩, ⟨some 10, (some (9, false)), .mv (.t 1)⟩, ⟨some 11, (some (9, false)), .mv (.t 0)⟩, ⟨some 12, (some (9, false)), .pcall (.f 6) [.t 11, .k (.w 18446744073709551615#64)]⟩, ⟨some 13, (some (9, false)), .mv (.t 2)⟩, ⟨some 14, (some (9, false)), .bin .quo (.t 12) (.t 13)⟩, ⟨some 15, (some (9, false)), .bin .leq (.t 10) (.t 14)⟩, ⟨some 16, none, .pick (.t 9) (.k (.bool true)) (.t 15)⟩, ⟨some 6, none, .mv (.t 16)⟩] [6])
 .ret))
def F52 : AFunc := ⟨3, [.t 6], [], F52_c⟩
/-- spec.l18Num -/
def F53_c : AC :=
 (.seq (.reg false [⟨some 6, none, .box (.t 2)⟩, ⟨some 7, none, .box (.t 3)⟩, ⟨some 8, none, .alloc [.d (.w 0#64), .d (.w 0#64)]⟩] [0, 1, 6, 7, 8])
 (.seq (.reg false [⟨some 11, none, .mv (.t 0)⟩, ⟨some 12, none, .pcall (.f 6) [.t 11, .k (.w 18446744073709551615#64)]⟩, ⟨some 9, none, .mv (.t 12)⟩] [0, 1, 6, 7, 8, 9])
 (.seq (.reg false [⟨some 13, none, .mv (.t 9)⟩, ⟨some 14, none, .build [.d (.w 0#64), .d (.w 0#64)] [(1, 1, .t 13)]⟩, ⟨some 10, none, .alloc [.d (.w 0#64), .d (.w 0#64)]⟩, ⟨none, none, .store 2 (.t 10) (.t 14)⟩] [0, 1, 6, 7, 8, 9, 10])
 (.seq (.block 0 (.seq (.reg false [⟨some 16, none, .mv (.t 1)⟩, ⟨some 17, none, .bin .eql (.t 16) (.k (.int .i64 3))⟩, ⟨some 18, none, .mv (.t 17)⟩, ⟨some 19, (some (18, true)), .faddr 1 (.t 6)⟩, ⟨some 20, (some (18, true)), .load none (.t 19)⟩, ⟨some 21, (some (18, true)), .mv (.t 9)⟩, ⟨some 22, (some (18, true)), .faddr 1 (.t 7)⟩, ⟨some 23, (some (18, true)), .load none (.t 22)⟩, ⟨some 24, (some (18, true)), .bin .sub (.t 21) (.t 23)⟩, ⟨some 25, (some (18, true)), .bin .leq (.t 20) (.t 24)⟩, ⟨some 26, none, .pick (.t 18) (.t 25) (.k (.bool false))⟩, ⟨some 15, none, .mv (.t 26)⟩] [0, 1, 6, 7, 8, 9, 10, 15])
  (.cond (.t 15) (.seq (.reg false [⟨some 27, none, .faddr 0 (.t 6)⟩, ⟨some 28, none, .load none (.t 27)⟩, ⟨some 29, none, .faddr 0 (.t 7)⟩, ⟨some 30, none, .load none (.t 29)⟩, ⟨some 31, none, .bin .add (.t 28) (.t 30)⟩, ⟨some 32, none, .faddr 1 (.t 6)⟩, ⟨some 33, none, .load none (.t 32)⟩, ⟨some 34, none, .faddr 1 (.t 7)⟩, ⟨some 35, none, .load none (.t 34)⟩, ⟨some 36, none, .bin .add (.t 33) (.t 35)⟩, ⟨some 37, none, .build [.d (.w 0#64), .d (.w 0#64)] [(0, 1, .t 31), (1, 1, .t 36)]⟩, ⟨none, none, .store 2 (.t 8) (.t 37)⟩] [8])
   .ret) (.seq (.reg false [⟨some 39, none, .mv (.t 1)⟩, ⟨some 40, none, .bin .eql (.t 39) (.k (.int .i64 5))⟩, ⟨some 41, none, .mv (.t 40)⟩, ⟨some 42, (some (41, true)), .mv (.t 0)⟩, ⟨some 43, (some (41, true)), .faddr 1 (.t 6)⟩, ⟨some 44, (some (41, true)), .load none (.t 43)⟩, ⟨some 45, (some (41, true)), .faddr 1 (.t 7)⟩, ⟨some 46, (some (41, true)), .load none (.t 45)⟩, ⟨some 47, (some (41, true)), .pcall (.f 52) [.t 42, .t 44, .t 46]⟩, ⟨some 48, none, .pick (.t 41) (.t 47) (.k (.bool false))⟩, ⟨some 38, none, .mv (.t 48)⟩] [1, 6, 7, 8, 9, 10, 38])
   (.cond (.t 38) (.seq (.reg false [⟨some 49, none, .faddr 0 (.t 6)⟩, ⟨some 50, none, .load none (.t 49)⟩, ⟨some 51, none, .faddr 0 (.t 7)⟩, ⟨some 52, none, .load none (.t 51)⟩, ⟨some 53, none, .bin .mul (.t 50) (.t 52)⟩, ⟨some 54, none, .faddr 1 (.t 6)⟩, ⟨some 55, none, .load none (.t 54)⟩, ⟨some 56, none, .faddr 1 (.t 7)⟩, ⟨some 57, none, .load none (.t 56)⟩, ⟨some 58, none, .bin .mul (.t 55) (.t 57)⟩, ⟨some 59, none, .build [.d (.w 0#64), .d (.w 0#64)] [(0, 1, .t 53), (1, 1, .t 58)]⟩, ⟨none, none, .store 2 (.t 8) (.t 59)⟩] [8])
    .ret) (.seq (.reg false [⟨some 61, none, .mv (.t 1)⟩, ⟨some 62, none, .bin .eql (.t 61) (.k (.int .i64 4))⟩, ⟨some 63, none, .mv (.t 62)⟩, ⟨some 64, (some (63, true)), .faddr 0 (.t 6)⟩, ⟨some 65, (some (63, true)), .load none (.t 64)⟩, ⟨some 66, (some (63, true)), .faddr 1 (.t 7)⟩, ⟨some 67, (some (63, true)), .load none (.t 66)⟩, ⟨some 68, (some (63, true)), .bin .geq (.t 65) (.t 67)⟩, ⟨some 69, none, .pick (.t 63) (.t 68) (.k (.bool false))⟩, ⟨some 60, none, .mv (.t 69)⟩] [1, 6, 7, 8, 9, 10, 60])
    (.cond (.t 60) (.seq (.reg false [⟨some 70, none, .faddr 0 (.t 6)⟩, ⟨some 71, none, .load none (.t 70)⟩, ⟨some 72, none, .faddr 1 (.t 7)⟩, ⟨some 73, none, .load none (.t 72)⟩, ⟨some 74, none, .bin .sub (.t 71) (.t 73)⟩, ⟨some 75, none, .faddr 1 (.t 6)⟩, ⟨some 76, none, .load none (.t 75)⟩, ⟨some 77, none, .faddr 0 (.t 7)⟩, ⟨some 78, none, .load none (.t 77)⟩, ⟨some 79, none, .bin .sub (.t 76) (.t 78)⟩, ⟨some 80, none, .build [.d (.w 0#64), .d (.w 0#64)] [(0, 1, .t 74), (1, 1, .t 79)]⟩, ⟨none, none, .store 2 (.t 8) (.t 80)⟩] [8])
     .ret) (.seq (.reg false [⟨some 82, none, .mv (.t 1)⟩, ⟨some 83, none, .bin .eql (.t 82) (.k (.int .i64 6))⟩, ⟨some 84, none, .mv (.t 83)⟩, ⟨some 85, (some (84, true)), .faddr 0 (.t 7)⟩, ⟨some 86, (some (84, true)), .load none (.t 85)⟩, ⟨some 87, (some (84, true)), .bin .gtr (.t 86) (.k (.w 0#64))⟩, ⟨some 88, none, .pick (.t 84) (.t 87) (.k (.bool false))⟩, ⟨some 81, none, .mv (.t 88)⟩] [1, 6, 7, 8, 9, 10, 81])
     (.cond (.t 81) (.seq (.reg true [⟨some 89, none, .faddr 0 (.t 6)⟩, ⟨some 90, none, .load none (.t 89)⟩, ⟨some 91, none, .faddr 1 (.t 7)⟩, ⟨some 92, none, .load none (.t 91)⟩, ⟨some 93, none, .bin .quo (.t 90) (.t 92)⟩, ⟨some 94, none, .faddr 1 (.t 6)⟩, ⟨some 95, none, .load none (.t 94)⟩, ⟨some 96, none, .faddr 0 (.t 7)⟩, ⟨some 97, none, .load none (.t 96)⟩, ⟨some 98, none, .bin .quo (.t 95) (.t 97)⟩, ⟨some 99, none, .build [.d (.w 0#64), .d (.w 0#64)] [(0, 1, .t 93), (1, 1, .t 98)]⟩, ⟨none, none, .store 2 (.t 8) (.t 99)⟩] [8])
      .ret) (.seq (.reg false [⟨some 101, none, .mv (.t 1)⟩, ⟨some 102, none, .bin .eql (.t 101) (.k (.int .i64 7))⟩, ⟨some 103, none, .mv (.t 102)⟩, ⟨some 104, (some (103, true)), .faddr 0 (.t 7)⟩, ⟨some 105, (some (103, true)), .load none (.t 104)⟩, ⟨some 106, (some (103, true)), .bin .gtr (.t 105) (.k (.w 0#64))⟩, ⟨some 107, none, .pick (.t 103) (.t 106) (.k (.bool false))⟩, ⟨some 100, none, .mv (.t 107)⟩] [1, 6, 7, 8, 9, 10, 100])
      (.cond (.t 100) (.seq (.reg false [⟨some 108, none, .faddr 1 (.t 6)⟩, ⟨some 109, none, .load none (.t 108)⟩, ⟨some 110, none, .faddr 1 (.t 7)⟩, ⟨some 111, none, .load none (.t 110)⟩, ⟨some 112, none, .bin .sub (.t 111) (.k (.w 1#64))⟩, ⟨some 113, none, .pcall (.f 51) [.t 109, .t 112]⟩, ⟨some 114, none, .build [.d (.w 0#64), .d (.w 0#64)] [(1, 1, .t 113)]⟩, ⟨none, none, .store 2 (.t 8) (.t 114)⟩] [8])
       .ret) (.seq (.reg false [⟨some 116, none, .mv (.t 1)⟩, ⟨some 117, none, .bin .eql (.t 116) (.k (.int .i64 7))⟩, ⟨some 118, none, .mv (.t 117)⟩, ⟨some 119, (some (118, false)), .mv (.t 1)⟩, ⟨some 120, (some (118, false)), .bin .eql (.t 119) (.k (.int .i64 12))⟩, ⟨some 121, none, .pick (.t 118) (.k (.bool true)) (.t 120)⟩, ⟨some 115, none, .mv (.t 121)⟩] [1, 6, 7, 8, 9, 10, 115])
       (.cond (.t 115) (.seq (.reg false [⟨some 122, none, .faddr 1 (.t 6)⟩, ⟨some 123, none, .load none (.t 122)⟩, ⟨some 124, none, .build [.d (.w 0#64), .d (.w 0#64)] [(1, 1, .t 123)]⟩, ⟨none, none, .store 2 (.t 8) (.t 124)⟩] [8])
        .ret) (.seq (.reg false [⟨some 126, none, .mv (.t 1)⟩, ⟨some 127, none, .bin .eql (.t 126) (.k (.int .i64 8))⟩, ⟨some 125, none, .mv (.t 127)⟩] [1, 6, 7, 8, 9, 10, 125])
        (.cond (.t 125) (.seq (.reg false [⟨some 128, none, .faddr 1 (.t 6)⟩, ⟨some 129, none, .load none (.t 128)⟩, ⟨some 130, none, .faddr 1 (.t 7)⟩, ⟨some 131, none, .load none (.t 130)⟩, ⟨some 132, none, .pcall (.f 51) [.t 129, .t 131]⟩, ⟨some 133, none, .build [.d (.w 0#64), .d (.w 0#64)] [(1, 1, .t 132)]⟩, ⟨none, none, .store 2 (.t 8) (.t 133)⟩] [8])
         .ret) (.seq (.reg false [⟨some 135, none, .mv (.t 1)⟩, ⟨some 136, none, .bin .eql (.t 135) (.k (.int .i64 9))⟩, ⟨some 134, none, .mv (.t 136)⟩] [6, 7, 8, 9, 10, 134])
         (.cond (.t 134) (.seq (.reg false [⟨some 137, none, .faddr 0 (.t 6)⟩, ⟨some 138, none, .load none (.t 137)⟩, ⟨some 139, none, .faddr 0 (.t 7)⟩, ⟨some 140, none, .load none (.t 139)⟩, ⟨some 141, none, .pcall (.f 50) [.t 138, .t 140]⟩, ⟨some 142, none, .mv (.t 9)⟩, ⟨some 143, none, .build [.d (.w 0#64), .d (.w 0#64)] [(0, 1, .t 141), (1, 1, .t 142)]⟩, ⟨none, none, .store 2 (.t 8) (.t 143)⟩] [8])
          .ret) .skip)))))))))))))))))
 (.seq (.reg false [⟨some 144, none, .load (some 2) (.t 10)⟩, ⟨none, none, .store 2 (.t 8) (.t 144)⟩] [8])
 .ret)))))
def F53 : AFunc := ⟨4, [.cell 8 (some 2)], [], F53_c⟩
/-- spec.l18Ask -/
def F54_c : AC :=
 (.seq (.reg false [⟨some 4, none, .box (.t 1)⟩, ⟨some 5, none, .box (.t 2)⟩, ⟨some 6, none, .alloc [.d (.w 0#64), .d (.w 0#64)]⟩] [0, 4, 5, 6])
 (.seq (.reg false [⟨some 9, none, .build [.d (.w 0#64), .d (.w 0#64)] []⟩, ⟨some 7, none, .alloc [.d (.w 0#64), .d (.w 0#64)]⟩, ⟨none, none, .store 2 (.t 7) (.t 9)⟩] [0, 4, 5, 6, 7])
 (.seq (.reg false [⟨some 10, none, .build [.d (.w 0#64), .d (.w 0#64)] [(0, 1, .k (.w 1#64)), (1, 1, .k (.w 1#64))]⟩, ⟨some 8, none, .alloc [.d (.w 0#64), .d (.w 0#64)]⟩, ⟨none, none, .store 2 (.t 8) (.t 10)⟩] [0, 4, 5, 6, 7, 8])
 (.seq (.block 0 (.seq (.reg false [⟨some 12, none, .mv (.t 0)⟩, ⟨some 13, none, .bin .eql (.t 12) (.k (.int .i64 14))⟩, ⟨some 14, none, .mv (.t 13)⟩, ⟨some 15, (some (14, true)), .faddr 1 (.t 4)⟩, ⟨some 16, (some (14, true)), .load none (.t 15)⟩, ⟨some 17, (some (14, true)), .faddr 0 (.t 5)⟩, ⟨some 18, (some (14, true)), .load none (.t 17)⟩, ⟨some 19, (some (14, true)), .bin .lss (.t 16) (.t 18)⟩, ⟨some 20, (some (14, true)), .mv (.t 19)⟩, ⟨some 21, (some (20, false)), .faddr 1 (.t 5)⟩, ⟨some 22, (some (20, false)), .load none (.t 21)⟩, ⟨some 23, (some (20, false)), .faddr 0 (.t 4)⟩, ⟨some 24, (some (20, false)), .load none (.t 23)⟩, ⟨some 25, (some (20, false)), .bin .lss (.t 22) (.t 24)⟩, ⟨some 26, (some (14, true)), .pick (.t 20) (.k (.bool true)) (.t 25)⟩, ⟨some 27, none, .pick (.t 14) (.t 26) (.k (.bool false))⟩, ⟨some 11, none, .mv (.t 27)⟩] [0, 4, 5, 6, 7, 8, 11])
  (.cond (.t 11) (.seq (.reg false [⟨some 28, none, .load (some 2) (.t 7)⟩, ⟨none, none, .store 2 (.t 6) (.t 28)⟩] [6])
   .ret) (.seq (.reg false [⟨some 30, none, .mv (.t 0)⟩, ⟨some 31, none, .bin .eql (.t 30) (.k (.int .i64 14))⟩, ⟨some 32, none, .mv (.t 31)⟩, ⟨some 33, (some (32, true)), .faddr 0 (.t 4)⟩, ⟨some 34, (some (32, true)), .load none (.t 33)⟩, ⟨some 35, (some (32, true)), .faddr 1 (.t 4)⟩, ⟨some 36, (some (32, true)), .load none (.t 35)⟩, ⟨some 37, (some (32, true)), .bin .eql (.t 34) (.t 36)⟩, ⟨some 38, none, .pick (.t 32) (.t 37) (.k (.bool false))⟩, ⟨some 39, none, .mv (.t 38)⟩, ⟨some 40, (some (39, true)), .load (some 2) (.t 4)⟩, ⟨some 41, (some (39, true)), .load (some 2) (.t 5)⟩, ⟨some 42, (some (39, true)), .eqs [0, 0] false (.t 40) (.t 41)⟩, ⟨some 43, none, .pick (.t 39) (.t 42) (.k (.bool false))⟩, ⟨some 29, none, .mv (.t 43)⟩] [0, 4, 5, 6, 7, 8, 29])
   (.cond (.t 29) (.seq (.reg false [⟨some 44, none, .load (some 2) (.t 8)⟩, ⟨none, none, .store 2 (.t 6) (.t 44)⟩] [6])
    .ret) (.seq (.reg false [⟨some 46, none, .mv (.t 0)⟩, ⟨some 47, none, .bin .eql (.t 46) (.k (.int .i64 15))⟩, ⟨some 48, none, .mv (.t 47)⟩, ⟨some 49, (some (48, true)), .faddr 1 (.t 4)⟩, ⟨some 50, (some (48, true)), .load none (.t 49)⟩, ⟨some 51, (some (48, true)), .faddr 0 (.t 5)⟩, ⟨some 52, (some (48, true)), .load none (.t 51)⟩, ⟨some 53, (some (48, true)), .bin .lss (.t 50) (.t 52)⟩, ⟨some 54, none, .pick (.t 48) (.t 53) (.k (.bool false))⟩, ⟨some 45, none, .mv (.t 54)⟩] [0, 4, 5, 6, 7, 8, 45])
    (.cond (.t 45) (.seq (.reg false [⟨some 55, none, .load (some 2) (.t 8)⟩, ⟨none, none, .store 2 (.t 6) (.t 55)⟩] [6])
     .ret) (.seq (.reg false [⟨some 57, none, .mv (.t 0)⟩, ⟨some 58, none, .bin .eql (.t 57) (.k (.int .i64 15))⟩, ⟨some 59, none, .mv (.t 58)⟩, ⟨some 60, (some (59, true)), .faddr 0 (.t 4)⟩, ⟨some 61, (some (59, true)), .load none (.t 60)⟩, ⟨some 62, (some (59, true)), .faddr 1 (.t 5)⟩, ⟨some 63, (some (59, true)), .load none (.t 62)⟩, ⟨some 64, (some (59, true)), .bin .geq (.t 61) (.t 63)⟩, ⟨some 65, none, .pick (.t 59) (.t 64) (.k (.bool false))⟩, ⟨some 56, none, .mv (.t 65)⟩] [0, 4, 5, 6, 7, 56])
     (.cond (.t 56) (.seq (.reg false [⟨some 66, none, .load (some 2) (.t 7)⟩, ⟨none, none, .store 2 (.t 6) (.t 66)⟩] [6])
      .ret) (.seq (.reg false [⟨some 68, none, .mv (.t 0)⟩, ⟨some 69, none, .bin .eql (.t 68) (.k (.int .i64 17))⟩, ⟨some 67, none, .mv (.t 69)⟩] [0, 4, 5, 6, 67])
      (.cond (.t 67) (.seq (.reg true [⟨some 70, none, .faddr 0 (.t 4)⟩, ⟨some 71, none, .load none (.t 70)⟩, ⟨some 72, none, .faddr 0 (.t 5)⟩, ⟨some 73, none, .load none (.t 72)⟩, ⟨some 74, none, .pcall (.f 51) [.t 71, .t 73]⟩, ⟨some 75, none, .faddr 1 (.t 4)⟩, ⟨some 76, none, .load none (.t 75)⟩, ⟨some 77, none, .faddr 1 (.t 5)⟩, ⟨some 78, none, .load none (.t 77)⟩, ⟨some 79, none, .pcall (.f 51) [.t 76, .t 78]⟩, ⟨some 80, none, .build [.d (.w 0#64), .d (.w 0#64)] [(0, 1, .t 74), (1, 1, .t 79)]⟩, ⟨none, none, .store 2 (.t 6) (.t 80)⟩] [6])
       .ret) (.seq (.reg false [⟨some 82, none, .mv (.t 0)⟩, ⟨some 83, none, .bin .eql (.t 82) (.k (.int .i64 18))⟩, ⟨some 81, none, .mv (.t 83)⟩] [4, 5, 6, 81])
       (.cond (.t 81) (.seq (.reg true [⟨some 84, none, .faddr 0 (.t 4)⟩, ⟨some 85, none, .load none (.t 84)⟩, ⟨some 86, none, .faddr 0 (.t 5)⟩, ⟨some 87, none, .load none (.t 86)⟩, ⟨some 88, none, .pcall (.f 50) [.t 85, .t 87]⟩, ⟨some 89, none, .faddr 1 (.t 4)⟩, ⟨some 90, none, .load none (.t 89)⟩, ⟨some 91, none, .faddr 1 (.t 5)⟩, ⟨some 92, none, .load none (.t 91)⟩, ⟨some 93, none, .pcall (.f 50) [.t 90, .t 92]⟩, ⟨some 94, none, .build [.d (.w 0#64), .d (.w 0#64)] [(0, 1, .t 88), (1, 1, .t 93)]⟩, ⟨none, none, .store 2 (.t 6) (.t 94)⟩] [6])
        .ret) .skip)))))))))))))
 (.seq (.reg false [⟨some 95, none, .build [.d (.w 0#64), .d (.w 0#64)] [(1, 1, .k (.w 1#64))]⟩, ⟨none, none, .store 2 (.t 6) (.t 95)⟩] [6])
 .ret)))))
def F54 : AFunc := ⟨3, [.cell 6 (some 2)], [], F54_c⟩
/-- spec.l18Of -/
def F55_c : AC :=
 (.seq (.reg false [⟨some 8, none, .alloc [.d (.w 0#64), .d (.w 0#64)]⟩] [0, 1, 2, 3, 8])
 (.seq (.reg false [⟨some 15, none, .mv (.t 1)⟩, ⟨some 16, none, .mv (.t 2)⟩, ⟨some 17, none, .iaddr 2 (.t 15) (.t 16)⟩, ⟨some 18, none, .load (some 2) (.t 17)⟩, ⟨some 9, none, .alloc [.d (.int .i64 0), .d (.w 0#64)]⟩, ⟨none, none, .store 2 (.t 9) (.t 18)⟩] [0, 1, 2, 3, 8, 9])
 (.seq (.reg false [⟨some 20, none, .faddr 0 (.t 9)⟩, ⟨some 21, none, .load none (.t 20)⟩, ⟨some 22, none, .pcall (.f 40) [.t 21]⟩, ⟨some 19, none, .mv (.t 22)⟩, ⟨some 23, none, .ext (.t 19) 0⟩, ⟨some 24, none, .ext (.t 19) 1⟩, ⟨some 25, none, .ext (.t 19) 2⟩, ⟨some 10, none, .mv (.t 23)⟩, ⟨some 11, none, .mv (.t 24)⟩, ⟨some 12, none, .mv (.t 25)⟩] [0, 1, 2, 3, 8, 9, 10, 12])
 (.seq (.block 0 (.seq (.reg false [⟨some 27, none, .faddr 0 (.t 9)⟩, ⟨some 28, none, .load none (.t 27)⟩, ⟨some 29, none, .bin .eql (.t 28) (.k (.int .i64 2))⟩, ⟨some 26, none, .mv (.t 29)⟩] [0, 1, 2, 3, 8, 9, 10, 12, 26])
  (.cond (.t 26) (.seq (.reg false [⟨some 30, none, .mv (.t 3)⟩, ⟨some 31, none, .faddr 1 (.t 9)⟩, ⟨some 32, none, .load none (.t 31)⟩, ⟨some 33, none, .iaddr 2 (.t 30) (.t 32)⟩, ⟨some 34, none, .load (some 2) (.t 33)⟩, ⟨none, none, .store 2 (.t 8) (.t 34)⟩] [8])
   .ret) (.seq (.reg false [⟨some 36, none, .mv (.t 10)⟩, ⟨some 37, none, .bin .eql (.t 36) (.k (.int .i64 0))⟩, ⟨some 35, none, .mv (.t 37)⟩] [0, 1, 2, 3, 8, 9, 12, 35])
   (.cond (.t 35) (.seq (.reg false [⟨some 38, none, .faddr 1 (.t 9)⟩, ⟨some 39, none, .load none (.t 38)⟩, ⟨some 40, none, .faddr 1 (.t 9)⟩, ⟨some 41, none, .load none (.t 40)⟩, ⟨some 42, none, .build [.d (.w 0#64), .d (.w 0#64)] [(0, 1, .t 39), (1, 1, .t 41)]⟩, ⟨none, none, .store 2 (.t 8) (.t 42)⟩] [8])
    .ret) .skip)))))
 (.seq (.reg false [⟨some 43, none, .mv (.t 0)⟩, ⟨some 44, none, .mv (.t 1)⟩, ⟨some 45, none, .mv (.t 2)⟩, ⟨some 46, none, .bin .sub (.t 45) (.k (.int .i64 1))⟩, ⟨some 47, none, .mv (.t 3)⟩, ⟨some 48, none, .lcall (.f 55) [.t 43, .t 44, .t 46, .t 47]⟩, ⟨some 13, none, .alloc [.d (.w 0#64), .d (.w 0#64)]⟩, ⟨none, none, .store 2 (.t 13) (.t 48)⟩] [0, 1, 2, 3, 8, 9, 12, 13])
 (.seq (.block 1 (.seq (.reg false [⟨some 50, none, .faddr 0 (.t 9)⟩, ⟨some 51, none, .load none (.t 50)⟩, ⟨some 52, none, .bin .eql (.t 51) (.k (.int .i64 13))⟩, ⟨some 49, none, .mv (.t 52)⟩] [0, 1, 2, 3, 8, 9, 12, 13, 49])
  (.cond (.t 49) (.seq (.reg true [⟨some 53, none, .mv (.t 0)⟩, ⟨some 54, none, .faddr 1 (.t 13)⟩, ⟨some 55, none, .load none (.t 54)⟩, ⟨some 56, none, .un .xor (.t 55)⟩, ⟨some 57, none, .pcall (.f 6) [.t 53, .t 56]⟩, ⟨some 58, none, .mv (.t 0)⟩, ⟨some 59, none, .faddr 0 (.t 13)⟩, ⟨some 60, none, .load none (.t 59)⟩, ⟨some 61, none, .un .xor (.t 60)⟩, ⟨some 62, none, .pcall (.f 6) [.t 58, .t 61]⟩, ⟨some 63, none, .build [.d (.w 0#64), .d (.w 0#64)] [(0, 1, .t 57), (1, 1, .t 62)]⟩, ⟨none, none, .store 2 (.t 8) (.t 63)⟩] [8])
   .ret) (.seq (.reg false [⟨some 65, none, .faddr 0 (.t 9)⟩, ⟨some 66, none, .load none (.t 65)⟩, ⟨some 67, none, .bin .eql (.t 66) (.k (.int .i64 19))⟩, ⟨some 64, none, .mv (.t 67)⟩] [0, 1, 2, 3, 8, 9, 12, 13, 64])
   (.cond (.t 64) (.seq (.reg false [⟨some 68, none, .faddr 1 (.t 13)⟩, ⟨some 69, none, .load none (.t 68)⟩, ⟨some 70, none, .bin .sub (.k (.w 1#64)) (.t 69)⟩, ⟨some 71, none, .faddr 0 (.t 13)⟩, ⟨some 72, none, .load none (.t 71)⟩, ⟨some 73, none, .bin .sub (.k (.w 1#64)) (.t 72)⟩, ⟨some 74, none, .build [.d (.w 0#64), .d (.w 0#64)] [(0, 1, .t 70), (1, 1, .t 73)]⟩, ⟨none, none, .store 2 (.t 8) (.t 74)⟩] [8])
    .ret) .skip)))))
 (.seq (.reg false [⟨some 75, none, .mv (.t 0)⟩, ⟨some 76, none, .mv (.t 1)⟩, ⟨some 77, none, .mv (.t 1)⟩, ⟨some 78, none, .mv (.t 2)⟩, ⟨some 79, none, .bin .sub (.t 78) (.k (.int .i64 1))⟩, ⟨some 80, none, .lcall (.f 49) [.t 77, .t 79]⟩, ⟨some 81, none, .bin .sub (.t 80) (.k (.int .i64 1))⟩, ⟨some 82, none, .mv (.t 3)⟩, ⟨some 83, none, .lcall (.f 55) [.t 75, .t 76, .t 81, .t 82]⟩, ⟨some 14, none, .alloc [.d (.w 0#64), .d (.w 0#64)]⟩, ⟨none, none, .store 2 (.t 14) (.t 83)⟩] [0, 8, 9, 12, 13, 14])
 (.seq (.seq (.reg false [⟨some 84, none, .mv (.t 12)⟩, ⟨some 85, none, .bin .eql (.t 84) (.k (.int .i64 1))⟩] [0, 8, 9, 13, 14, 85])
 (.cond (.t 85) (.seq (.reg false [⟨some 86, none, .mv (.t 0)⟩, ⟨some 87, none, .faddr 0 (.t 9)⟩, ⟨some 88, none, .load none (.t 87)⟩, ⟨some 89, none, .load (some 2) (.t 14)⟩, ⟨some 90, none, .load (some 2) (.t 13)⟩, ⟨some 91, none, .pcall (.f 53) [.t 86, .t 88, .t 89, .t 90]⟩, ⟨none, none, .store 2 (.t 8) (.t 91)⟩] [8])
  .ret) .skip))
 (.seq (.reg false [⟨some 92, none, .faddr 0 (.t 9)⟩, ⟨some 93, none, .load none (.t 92)⟩, ⟨some 94, none, .load (some 2) (.t 14)⟩, ⟨some 95, none, .load (some 2) (.t 13)⟩, ⟨some 96, none, .pcall (.f 54) [.t 93, .t 94, .t 95]⟩, ⟨none, none, .store 2 (.t 8) (.t 96)⟩] [8])
 .ret)))))))))
def F55 : AFunc := ⟨4, [.cell 8 (some 2)], [], F55_c⟩
/-- spec.SpanOf -/
def F56_c : AC :=
 (.seq (.reg false [⟨some 6, none, .alloc [.d (.w 0#64), .d (.w 0#64)]⟩, ⟨some 7, none, .mv (.k (.bool false))⟩] [0, 1, 2, 6])
 (.seq (.seq (.reg false [⟨some 8, none, .mv (.t 0)⟩, ⟨some 9, none, .mv (.t 2)⟩, ⟨some 10, none, .len (.t 9)⟩, ⟨some 11, none, .mv (.t 1)⟩, ⟨some 12, none, .lcall (.f 45) [.t 8, .t 10, .t 11]⟩, ⟨some 13, none, .un .not (.t 12)⟩, ⟨some 14, none, .mv (.t 13)⟩, ⟨some 15, (some (14, false)), .mv (.t 0)⟩, ⟨some 16, (some (14, false)), .mv (.t 2)⟩, ⟨some 17, (some (14, false)), .lcall (.f 48) [.t 15, .t 16]⟩, ⟨some 18, (some (14, false)), .un .not (.t 17)⟩, ⟨some 19, none, .pick (.t 14) (.k (.bool true)) (.t 18)⟩] [0, 1, 2, 6, 19])
 (.cond (.t 19) (.seq (.reg false [⟨some 20, none, .build [.d (.w 0#64), .d (.w 0#64)] []⟩, ⟨none, none, .store 2 (.t 6) (.t 20)⟩, ⟨some 7, none, .mv (.k (.bool false))⟩] [6, 7])
  .ret) .skip))
 (.seq (.reg false [⟨some 21, none, .mv (.t 0)⟩, ⟨some 22, none, .mv (.t 1)⟩, ⟨some 23, none, .mv (.t 1)⟩, ⟨some 24, none, .len (.t 23)⟩, ⟨some 25, none, .bin .sub (.t 24) (.k (.int .i64 1))⟩, ⟨some 26, none, .mv (.t 2)⟩, ⟨some 27, none, .lcall (.f 55) [.t 21, .t 22, .t 25, .t 26]⟩, ⟨none, none, .store 2 (.t 6) (.t 27)⟩, ⟨some 7, none, .mv (.k (.bool true))⟩] [6, 7])
 .ret)))
def F56 : AFunc := ⟨3, [.cell 6 (some 2), .t 7], [], F56_c⟩
/-- laws.numberOf -/
def F57_b0 : AC := (.seq (.reg false [⟨some 9, none, .bin .lss (.t 8) (.t 7)⟩] [3, 6, 7, 8, 9])
   (.seq (.cond (.t 9) .skip (.exit 0))
   (.seq (.block 1 (.seq (.reg false [⟨some 10, none, .iaddr 1 (.t 6) (.t 8)⟩, ⟨some 11, none, .load none (.t 10)⟩, ⟨some 5, none, .mv (.t 11)⟩] [3, 5, 6, 7, 8])
    (.reg false [⟨some 12, none, .mv (.t 3)⟩, ⟨some 13, none, .bin .mul (.k (.int .i64 31)) (.t 12)⟩, ⟨some 14, none, .mv (.t 5)⟩, ⟨some 15, none, .conv .i64 (.t 14)⟩, ⟨some 16, none, .bin .add (.t 13) (.t 15)⟩, ⟨some 17, none, .bin .rem (.t 16) (.k (.int .i64 1000003))⟩, ⟨some 3, none, .mv (.t 17)⟩] [3, 6, 7, 8])))
   (.reg false [⟨some 18, none, .bin .add (.t 8) (.k (.int .i64 1))⟩, ⟨some 8, none, .mv (.t 18)⟩] [3, 6, 7, 8]))))
def F57_l0 : AC := F57_b0
@[simp] theorem u57_0 (T : Nat → Option AFunc) (X : Orc) (F : AFunc) (m : Nat) (K : List AT) (e : Env) (st : St) : go T X F m (.code F57_l0 :: K) e st = go T X F m (.code F57_b0 :: K) e st := rfl
def F57_t0 : AC :=
 (.seq (.reg false [⟨some 19, none, .mv (.t 3)⟩, ⟨some 2, none, .mv (.t 19)⟩] [2])
 .ret)
def F57_c : AC :=
 (.seq (.reg false [⟨some 2, none, .mv (.k (.int .i64 0))⟩] [0])
 (.seq (.reg false [⟨some 3, none, .mv (.k (.int .i64 0))⟩] [0, 3])
 (.seq (.seq (.reg false [⟨some 6, none, .mv (.t 0)⟩, ⟨some 7, none, .len (.t 6)⟩, ⟨some 8, none, .mv (.k (.int .i64 0))⟩] [3, 6, 7, 8])
 (.block 0 (.loop [(3, .keep), (6, .keep), (7, .keep), (8, .keep)] F57_l0)))
 (.kp [(3, .keep)] F57_t0))))
def F57 : AFunc := ⟨1, [.t 2], [], F57_c⟩
/-- slices.IndexFunc[[]uint64,uint64] -/
def F58_b0 : AC := (.seq (.reg false [⟨some 9, none, .bin .lss (.t 8) (.t 7)⟩] [0, 1, 7, 8, 9])
   (.seq (.cond (.t 9) .skip (.exit 0))
   (.seq (.block 1 (.seq (.reg false [⟨some 10, none, .mv (.t 8)⟩, ⟨some 5, none, .mv (.t 10)⟩] [0, 1, 5, 7, 8])
    (.seq (.reg false [⟨some 11, none, .mv (.t 1)⟩, ⟨some 12, none, .mv (.t 0)⟩, ⟨some 13, none, .mv (.t 5)⟩, ⟨some 14, none, .iaddr 1 (.t 12) (.t 13)⟩, ⟨some 15, none, .load none (.t 14)⟩, ⟨some 16, none, .lcall (.t 11) [.t 15]⟩] [0, 1, 5, 7, 8, 16])
    (.cond (.t 16) (.seq (.reg false [⟨some 17, none, .mv (.t 5)⟩, ⟨some 4, none, .mv (.t 17)⟩] [4])
     .ret) .skip))))
   (.reg false [⟨some 18, none, .bin .add (.t 8) (.k (.int .i64 1))⟩, ⟨some 8, none, .mv (.t 18)⟩] [0, 1, 7, 8]))))
def F58_l0 : AC := F58_b0
@[simp] theorem u58_0 (T : Nat → Option AFunc) (X : Orc) (F : AFunc) (m : Nat) (K : List AT) (e : Env) (st : St) : go T X F m (.code F58_l0 :: K) e st = go T X F m (.code F58_b0 :: K) e st := rfl
def F58_t0 : AC :=
 (.seq (.reg false [⟨some 4, none, .mv (.k (.int .i64 (-1)))⟩] [4])
 .ret)
def F58_c : AC :=
 (.seq (.reg false [⟨some 4, none, .mv (.k (.int .i64 0))⟩] [0, 1])
 (.seq (.seq (.reg false [⟨some 6, none, .mv (.t 0)⟩, ⟨some 7, none, .len (.t 6)⟩, ⟨some 8, none, .mv (.k (.int .i64 0))⟩] [0, 1, 7, 8])
 (.block 0 (.loop [(0, .keep), (1, .keep), (7, .keep), (8, .keep)] F58_l0)))
 (.kp [] F58_t0)))
def F58 : AFunc := ⟨2, [.t 4], [], F58_c⟩
/-- slices.ContainsFunc[[]uint64,uint64] -/
def F59_c : AC :=
 (.seq (.reg false [⟨some 4, none, .mv (.k (.bool false))⟩] [0, 1])
 (.seq (.reg false [⟨some 5, none, .mv (.t 0)⟩, ⟨some 6, none, .mv (.t 1)⟩, ⟨some 7, none, .lcall (.f 58) [.t 5, .t 6]⟩, ⟨some 8, none, .bin .geq (.t 7) (.k (.int .i64 0))⟩, ⟨some 4, none, .mv (.t 8)⟩] [4])
 .ret))
def F59 : AFunc := ⟨2, [.t 4], [], F59_c⟩
/-- impl.isState$1 -/
def F60_c : AC :=
 (.seq (.reg false [⟨some 3, none, .mv (.k (.bool false))⟩] [0, 1])
 (.seq (.reg false [⟨some 4, none, .load none (.t 1)⟩, ⟨some 5, none, .mv (.t 0)⟩, ⟨some 6, none, .pcall (.f 20) [.t 4, .t 5]⟩, ⟨some 7, none, .un .not (.t 6)⟩, ⟨some 3, none, .mv (.t 7)⟩] [3])
 .ret))
def F60 : AFunc := ⟨2, [.t 3], [], F60_c⟩
/-- impl.isState -/
def F61_c : AC :=
 (.seq (.reg false [⟨some 3, none, .box (.t 0)⟩, ⟨some 6, none, .mv (.k (.bool false))⟩] [1, 2, 3])
 (.seq (.reg false [⟨some 7, none, .load none (.t 3)⟩, ⟨some 8, none, .pcall (.f 18) [.t 7]⟩, ⟨some 9, none, .mv (.t 8)⟩, ⟨some 10, (some (9, true)), .mv (.t 1)⟩, ⟨some 11, (some (9, true)), .pcall (.f 15) [.t 10]⟩, ⟨some 12, none, .pick (.t 9) (.t 11) (.k (.bool false))⟩, ⟨some 13, none, .mv (.t 12)⟩, ⟨some 14, (some (13, true)), .mv (.t 2)⟩, ⟨some 15, (some (13, true)), .len (.t 14)⟩, ⟨some 16, (some (13, true)), .mv (.t 1)⟩, ⟨some 17, (some (13, true)), .bin .eql (.t 15) (.t 16)⟩, ⟨some 18, none, .pick (.t 13) (.t 17) (.k (.bool false))⟩, ⟨some 19, none, .mv (.t 18)⟩, ⟨some 20, (some (19, true)), .mv (.t 2)⟩, ⟨some 21, (some (19, true)), .mkfn 60 [.t 3]⟩, ⟨some 22, (some (19, true)), .lcall (.f 59) [.t 20, .t 21]⟩, ⟨some 23, (some (19, true)), .un .not (.t 22)⟩, ⟨some 24, none, .pick (.t 19) (.t 23) (.k (.bool false))⟩, ⟨some 6, none, .mv (.t 24)⟩] [6])
 .ret))
def F61 : AFunc := ⟨3, [.t 6], [], F61_c⟩
/-- (impl.Span).has -/
def F62_c : AC :=
 (.seq (.reg false [⟨some 2, none, .box (.t 0)⟩, ⟨some 4, none, .mv (.k (.bool false))⟩] [1, 2])
 (.seq (.reg false [⟨some 5, none, .faddr 0 (.t 2)⟩, ⟨some 6, none, .load none (.t 5)⟩, ⟨some 7, none, .mv (.t 1)⟩, ⟨some 8, none, .bin .leq (.t 6) (.t 7)⟩, ⟨some 9, none, .mv (.t 8)⟩, ⟨some 10, (some (9, true)), .mv (.t 1)⟩, ⟨some 11, (some (9, true)), .faddr 1 (.t 2)⟩, ⟨some 12, (some (9, true)), .load none (.t 11)⟩, ⟨some 13, (some (9, true)), .bin .leq (.t 10) (.t 12)⟩, ⟨some 14, none, .pick (.t 9) (.t 13) (.k (.bool false))⟩, ⟨some 4, none, .mv (.t 14)⟩] [4])
 .ret))
def F62 : AFunc := ⟨2, [.t 4], [], F62_c⟩
/-- impl.InSpans -/
def F63_b0 : AC := (.seq (.reg false [⟨some 25, none, .bin .lss (.t 24) (.t 23)⟩] [2, 22, 23, 24, 25])
   (.seq (.cond (.t 25) .skip (.exit 0))
   (.seq (.block 1 (.seq (.reg false [⟨some 26, none, .mv (.t 24)⟩, ⟨some 27, none, .iaddr 2 (.t 22) (.t 24)⟩, ⟨some 28, none, .load (some 2) (.t 27)⟩, ⟨some 9, none, .alloc [.d (.w 0#64), .d (.w 0#64)]⟩, ⟨some 8, none, .mv (.t 26)⟩, ⟨none, none, .store 2 (.t 9) (.t 28)⟩] [2, 8, 9, 22, 23, 24])
    (.seq (.reg true [⟨some 29, none, .load (some 2) (.t 9)⟩, ⟨some 30, none, .mv (.t 2)⟩, ⟨some 31, none, .mv (.t 8)⟩, ⟨some 32, none, .iaddr 1 (.t 30) (.t 31)⟩, ⟨some 33, none, .load none (.t 32)⟩, ⟨some 34, none, .pcall (.f 62) [.t 29, .t 33]⟩, ⟨some 35, none, .un .not (.t 34)⟩] [2, 22, 23, 24, 35])
    (.cond (.t 35) (.seq (.reg false [⟨some 6, none, .mv (.k (.bool false))⟩, ⟨some 7, none, .mv (.k (.bool true))⟩] [6, 7])
     .ret) .skip))))
   (.reg false [⟨some 36, none, .bin .add (.t 24) (.k (.int .i64 1))⟩, ⟨some 24, none, .mv (.t 36)⟩] [2, 22, 23, 24]))))
def F63_l0 : AC := F63_b0
@[simp] theorem u63_0 (T : Nat → Option AFunc) (X : Orc) (F : AFunc) (m : Nat) (K : List AT) (e : Env) (st : St) : go T X F m (.code F63_l0 :: K) e st = go T X F m (.code F63_b0 :: K) e st := rfl
def F63_t0 : AC :=
 (.seq (.reg false [⟨some 6, none, .mv (.k (.bool true))⟩, ⟨some 7, none, .mv (.k (.bool true))⟩] [6, 7])
 .ret)
def F63_c : AC :=
 (.seq (.reg false [⟨some 6, none, .mv (.k (.bool false))⟩, ⟨some 7, none, .mv (.k (.bool false))⟩] [0, 1, 2])
 (.seq (.seq (.reg false [⟨some 10, none, .mv (.t 0)⟩, ⟨some 11, none, .mv (.t 1)⟩, ⟨some 12, none, .lcall (.f 23) [.t 10, .t 11]⟩, ⟨some 13, none, .un .not (.t 12)⟩, ⟨some 14, none, .mv (.t 13)⟩, ⟨some 15, (some (14, false)), .mv (.t 0)⟩, ⟨some 16, (some (14, false)), .mv (.t 1)⟩, ⟨some 17, (some (14, false)), .len (.t 16)⟩, ⟨some 18, (some (14, false)), .mv (.t 2)⟩, ⟨some 19, (some (14, false)), .lcall (.f 61) [.t 15, .t 17, .t 18]⟩, ⟨some 20, (some (14, false)), .un .not (.t 19)⟩, ⟨some 21, none, .pick (.t 14) (.k (.bool true)) (.t 20)⟩] [1, 2, 21])
 (.cond (.t 21) (.seq (.reg false [⟨some 6, none, .mv (.k (.bool false))⟩, ⟨some 7, none, .mv (.k (.bool false))⟩] [6, 7])
  .ret) .skip))
 (.seq (.seq (.reg false [⟨some 22, none, .mv (.t 1)⟩, ⟨some 23, none, .len (.t 22)⟩, ⟨some 24, none, .mv (.k (.int .i64 0))⟩] [2, 22, 23, 24])
 (.block 0 (.loop [(2, .keep), (22, .keep), (23, .keep), (24, .keep)] F63_l0)))
 (.kp [] F63_t0))))
def F63 : AFunc := ⟨3, [.t 6, .t 7], [], F63_c⟩
/-- impl.areWords -/
def F64_c : AC :=
 (.seq (.reg false [⟨some 6, none, .mv (.k (.bool false))⟩] [0, 1, 2])
 (.seq (.reg false [⟨some 7, none, .mv (.t 0)⟩, ⟨some 8, none, .mv (.t 1)⟩, ⟨some 9, none, .pcall (.f 20) [.t 7, .t 8]⟩, ⟨some 10, none, .mv (.t 9)⟩, ⟨some 11, (some (10, true)), .mv (.t 0)⟩, ⟨some 12, (some (10, true)), .mv (.t 2)⟩, ⟨some 13, (some (10, true)), .pcall (.f 20) [.t 11, .t 12]⟩, ⟨some 14, none, .pick (.t 10) (.t 13) (.k (.bool false))⟩, ⟨some 6, none, .mv (.t 14)⟩] [6])
 .ret))
def F64 : AFunc := ⟨3, [.t 6], [], F64_c⟩
/-- math/bits.Len64 -/
def F65_t0 : AC :=
 (.seq (.reg false [⟨some 19, none, .mv (.t 2)⟩, ⟨some 20, none, .mv (.t 0)⟩, ⟨some 21, none, .conv .u8 (.t 20)⟩, ⟨some 22, none, .stri (.k (.str [0, 1, 2, 2, 3, 3, 3, 3, 4, 4, 4, 4, 4, 4, 4, 4, 5, 5, 5, 5, 5, 5, 5, 5, 5, 5, 5, 5, 5, 5, 5, 5, 6, 6, 6, 6, 6, 6, 6, 6, 6, 6, 6, 6, 6, 6, 6, 6, 6, 6, 6, 6, 6, 6, 6, 6, 6, 6, 6, 6, 6, 6, 6, 6, 7, 7, 7, 7, 7, 7, 7, 7, 7, 7, 7, 7, 7, 7, 7, 7, 7, 7, 7, 7, 7, 7, 7, 7, 7, 7, 7, 7, 7, 7, 7, 7, 7, 7, 7, 7, 7, 7, 7, 7, 7, 7, 7, 7, 7, 7, 7, 7, 7, 7, 7, 7, 7, 7, 7, 7, 7, 7, 7, 7, 7, 7, 7, 7, 8, 8, 8, 8, 8, 8, 8, 8, 8, 8, 8, 8, 8, 8, 8, 8, 8, 8, 8, 8, 8, 8, 8, 8, 8, 8, 8, 8, 8, 8, 8, 8, 8, 8, 8, 8, 8, 8, 8, 8, 8, 8, 8, 8, 8, 8, 8, 8, 8, 8, 8, 8, 8, 8, 8, 8, 8, 8, 8, 8, 8, 8, 8, 8, 8, 8, 8, 8, 8, 8, 8, 8, 8, 8, 8, 8, 8, 8, 8, 8, 8, 8, 8, 8, 8, 8, 8, 8, 8, 8, 8, 8, 8, 8, 8, 8, 8, 8, 8, 8, 8, 8, 8, 8, 8, 8, 8, 8, 8, 8, 8, 8, 8, 8, 8, 8, 8, 8, 8, 8, 8, 8, 8, 8, 8, 8, 8, 8])) (.t 21)⟩, ⟨some 23, none, .conv .i64 (.t 22)⟩, ⟨some 24, none, .bin .add (.t 19) (.t 23)⟩, ⟨some 2, none, .mv (.t 24)⟩] [2])
 .ret)
def F65_t1 : AC :=
 (.seq (.seq (.reg false [⟨some 13, none, .mv (.t 0)⟩, ⟨some 14, none, .bin .geq (.t 13) (.k (.w 256#64))⟩] [0, 2, 14])
 (.cond (.t 14) (.seq (.reg false [⟨some 15, none, .mv (.t 0)⟩, ⟨some 16, none, .bin .shr (.t 15) (.k (.w 8#64))⟩, ⟨some 0, none, .mv (.t 16)⟩] [0, 2])
  (.reg false [⟨some 17, none, .mv (.t 2)⟩, ⟨some 18, none, .bin .add (.t 17) (.k (.int .i64 8))⟩, ⟨some 2, none, .mv (.t 18)⟩] [0, 2])) .skip))
 (.kp [(0, .keep), (2, .keep)] F65_t0))
def F65_t2 : AC :=
 (.seq (.seq (.reg false [⟨some 7, none, .mv (.t 0)⟩, ⟨some 8, none, .bin .geq (.t 7) (.k (.w 65536#64))⟩] [0, 2, 8])
 (.cond (.t 8) (.seq (.reg false [⟨some 9, none, .mv (.t 0)⟩, ⟨some 10, none, .bin .shr (.t 9) (.k (.w 16#64))⟩, ⟨some 0, none, .mv (.t 10)⟩] [0, 2])
  (.reg false [⟨some 11, none, .mv (.t 2)⟩, ⟨some 12, none, .bin .add (.t 11) (.k (.int .i64 16))⟩, ⟨some 2, none, .mv (.t 12)⟩] [0, 2])) .skip))
 (.kp [(0, .keep), (2, .keep)] F65_t1))
def F65_c : AC :=
 (.seq (.reg false [⟨some 2, none, .mv (.k (.int .i64 0))⟩] [0, 2])
 (.seq (.seq (.reg false [⟨some 3, none, .mv (.t 0)⟩, ⟨some 4, none, .bin .geq (.t 3) (.k (.w 4294967296#64))⟩] [0, 2, 4])
 (.cond (.t 4) (.seq (.reg false [⟨some 5, none, .mv (.t 0)⟩, ⟨some 6, none, .bin .shr (.t 5) (.k (.w 32#64))⟩, ⟨some 0, none, .mv (.t 6)⟩] [0])
  (.reg false [⟨some 2, none, .mv (.k (.int .i64 32))⟩] [0, 2])) .skip))
 (.kp [(0, .keep), (2, .keep)] F65_t2)))
def F65 : AFunc := ⟨1, [.t 2], [], F65_c⟩
/-- math/bits.LeadingZeros64 -/
def F66_c : AC :=
 (.seq (.reg false [⟨some 2, none, .mv (.k (.int .i64 0))⟩] [0])
 (.seq (.reg false [⟨some 3, none, .mv (.t 0)⟩, ⟨some 4, none, .pcall (.f 65) [.t 3]⟩, ⟨some 5, none, .bin .sub (.k (.int .i64 64)) (.t 4)⟩, ⟨some 2, none, .mv (.t 5)⟩] [2])
 .ret))
def F66 : AFunc := ⟨1, [.t 2], [], F66_c⟩
/-- math/bits.Div64 -/
def F67_b0 : AC := (.seq (.seq (.reg false [⟨some 67, none, .mv (.t 15)⟩, ⟨some 68, none, .bin .geq (.t 67) (.k (.w 4294967296#64))⟩, ⟨some 69, none, .mv (.t 68)⟩, ⟨some 70, (some (69, false)), .mv (.t 15)⟩, ⟨some 71, (some (69, false)), .mv (.t 10)⟩, ⟨some 72, (some (69, false)), .bin .mul (.t 70) (.t 71)⟩, ⟨some 73, (some (69, false)), .mv (.t 16)⟩, ⟨some 74, (some (69, false)), .bin .mul (.k (.w 4294967296#64)) (.t 73)⟩, ⟨some 75, (some (69, false)), .mv (.t 13)⟩, ⟨some 76, (some (69, false)), .bin .add (.t 74) (.t 75)⟩, ⟨some 77, (some (69, false)), .bin .gtr (.t 72) (.t 76)⟩, ⟨some 78, none, .pick (.t 69) (.k (.bool true)) (.t 77)⟩] [2, 8, 9, 10, 11, 13, 14, 15, 16, 78])
   (.cond (.t 78) .skip (.exit 0)))
   (.block 1 (.seq (.reg false [⟨some 79, none, .mv (.t 15)⟩, ⟨some 80, none, .bin .sub (.t 79) (.k (.w 1#64))⟩, ⟨some 15, none, .mv (.t 80)⟩] [2, 8, 9, 10, 11, 13, 14, 15, 16])
    (.seq (.reg false [⟨some 81, none, .mv (.t 16)⟩, ⟨some 82, none, .mv (.t 9)⟩, ⟨some 83, none, .bin .add (.t 81) (.t 82)⟩, ⟨some 16, none, .mv (.t 83)⟩] [2, 8, 9, 10, 11, 13, 14, 15, 16])
    (.seq (.reg false [⟨some 84, none, .mv (.t 16)⟩, ⟨some 85, none, .bin .geq (.t 84) (.k (.w 4294967296#64))⟩] [2, 8, 9, 10, 11, 13, 14, 15, 16, 85])
    (.cond (.t 85) (.exit 0) .skip))))))
def F67_l0 : AC := F67_b0
@[simp] theorem u67_0 (T : Nat → Option AFunc) (X : Orc) (F : AFunc) (m : Nat) (K : List AT) (e : Env) (st : St) : go T X F m (.code F67_l0 :: K) e st = go T X F m (.code F67_b0 :: K) e st := rfl
def F67_b1 : AC := (.seq (.seq (.reg false [⟨some 102, none, .mv (.t 18)⟩, ⟨some 103, none, .bin .geq (.t 102) (.k (.w 4294967296#64))⟩, ⟨some 104, none, .mv (.t 103)⟩, ⟨some 105, (some (104, false)), .mv (.t 18)⟩, ⟨some 106, (some (104, false)), .mv (.t 10)⟩, ⟨some 107, (some (104, false)), .bin .mul (.t 105) (.t 106)⟩, ⟨some 108, (some (104, false)), .mv (.t 16)⟩, ⟨some 109, (some (104, false)), .bin .mul (.k (.w 4294967296#64)) (.t 108)⟩, ⟨some 110, (some (104, false)), .mv (.t 14)⟩, ⟨some 111, (some (104, false)), .bin .add (.t 109) (.t 110)⟩, ⟨some 112, (some (104, false)), .bin .gtr (.t 107) (.t 111)⟩, ⟨some 113, none, .pick (.t 104) (.k (.bool true)) (.t 112)⟩] [2, 8, 9, 10, 14, 15, 16, 17, 18, 113])
   (.cond (.t 113) .skip (.exit 2)))
   (.block 3 (.seq (.reg false [⟨some 114, none, .mv (.t 18)⟩, ⟨some 115, none, .bin .sub (.t 114) (.k (.w 1#64))⟩, ⟨some 18, none, .mv (.t 115)⟩] [2, 8, 9, 10, 14, 15, 16, 17, 18])
    (.seq (.reg false [⟨some 116, none, .mv (.t 16)⟩, ⟨some 117, none, .mv (.t 9)⟩, ⟨some 118, none, .bin .add (.t 116) (.t 117)⟩, ⟨some 16, none, .mv (.t 118)⟩] [2, 8, 9, 10, 14, 15, 16, 17, 18])
    (.seq (.reg false [⟨some 119, none, .mv (.t 16)⟩, ⟨some 120, none, .bin .geq (.t 119) (.k (.w 4294967296#64))⟩] [2, 8, 9, 10, 14, 15, 16, 17, 18, 120])
    (.cond (.t 120) (.exit 2) .skip))))))
def F67_l1 : AC := F67_b1
@[simp] theorem u67_1 (T : Nat → Option AFunc) (X : Orc) (F : AFunc) (m : Nat) (K : List AT) (e : Env) (st : St) : go T X F m (.code F67_l1 :: K) e st = go T X F m (.code F67_b1 :: K) e st := rfl
def F67_t0 : AC :=
 (.seq (.reg false [⟨some 121, none, .mv (.t 15)⟩, ⟨some 122, none, .bin .mul (.t 121) (.k (.w 4294967296#64))⟩, ⟨some 123, none, .mv (.t 18)⟩, ⟨some 124, none, .bin .add (.t 122) (.t 123)⟩, ⟨some 125, none, .mv (.t 17)⟩, ⟨some 126, none, .bin .mul (.t 125) (.k (.w 4294967296#64))⟩, ⟨some 127, none, .mv (.t 14)⟩, ⟨some 128, none, .bin .add (.t 126) (.t 127)⟩, ⟨some 129, none, .mv (.t 18)⟩, ⟨some 130, none, .mv (.t 2)⟩, ⟨some 131, none, .bin .mul (.t 129) (.t 130)⟩, ⟨some 132, none, .bin .sub (.t 128) (.t 131)⟩, ⟨some 133, none, .mv (.t 8)⟩, ⟨some 134, none, .bin .shr (.t 132) (.t 133)⟩, ⟨some 6, none, .mv (.t 124)⟩, ⟨some 7, none, .mv (.t 134)⟩] [6, 7])
 .ret)
def F67_t1 : AC :=
 (.seq (.reg false [⟨some 86, none, .mv (.t 11)⟩, ⟨some 87, none, .bin .mul (.t 86) (.k (.w 4294967296#64))⟩, ⟨some 88, none, .mv (.t 13)⟩, ⟨some 89, none, .bin .add (.t 87) (.t 88)⟩, ⟨some 90, none, .mv (.t 15)⟩, ⟨some 91, none, .mv (.t 2)⟩, ⟨some 92, none, .bin .mul (.t 90) (.t 91)⟩, ⟨some 93, none, .bin .sub (.t 89) (.t 92)⟩, ⟨some 17, none, .mv (.t 93)⟩] [2, 8, 9, 10, 14, 15, 17])
 (.seq (.reg false [⟨some 94, none, .mv (.t 17)⟩, ⟨some 95, none, .mv (.t 9)⟩, ⟨some 96, none, .bin .quo (.t 94) (.t 95)⟩, ⟨some 18, none, .mv (.t 96)⟩] [2, 8, 9, 10, 14, 15, 17, 18])
 (.seq (.reg false [⟨some 97, none, .mv (.t 17)⟩, ⟨some 98, none, .mv (.t 18)⟩, ⟨some 99, none, .mv (.t 9)⟩, ⟨some 100, none, .bin .mul (.t 98) (.t 99)⟩, ⟨some 101, none, .bin .sub (.t 97) (.t 100)⟩, ⟨some 16, none, .mv (.t 101)⟩] [2, 8, 9, 10, 14, 15, 16, 17, 18])
 (.seq (.block 2 (.loop [(2, .keep), (8, .keep), (9, .keep), (10, .keep), (14, .keep), (15, .keep), (16, .keep), (17, .keep), (18, .keep)] F67_l1))
 (.kp [(2, .keep), (8, .keep), (14, .keep), (15, .keep), (17, .keep), (18, .keep)] F67_t0)))))
def F67_t2 : AC :=
 (.seq (.seq (.reg false [⟨some 26, none, .mv (.t 0)⟩, ⟨some 27, none, .bin .eql (.t 26) (.k (.w 0#64))⟩] [0, 1, 2, 27])
 (.cond (.t 27) (.seq (.reg true [⟨some 28, none, .mv (.t 1)⟩, ⟨some 29, none, .mv (.t 2)⟩, ⟨some 30, none, .bin .quo (.t 28) (.t 29)⟩, ⟨some 31, none, .mv (.t 1)⟩, ⟨some 32, none, .mv (.t 2)⟩, ⟨some 33, none, .bin .rem (.t 31) (.t 32)⟩, ⟨some 6, none, .mv (.t 30)⟩, ⟨some 7, none, .mv (.t 33)⟩] [6, 7])
  .ret) .skip))
 (.seq (.reg false [⟨some 34, none, .mv (.t 2)⟩, ⟨some 35, none, .pcall (.f 66) [.t 34]⟩, ⟨some 36, none, .conv .u64 (.t 35)⟩, ⟨some 8, none, .mv (.t 36)⟩] [0, 1, 2, 8])
 (.seq (.reg false [⟨some 37, none, .mv (.t 2)⟩, ⟨some 38, none, .mv (.t 8)⟩, ⟨some 39, none, .bin .shl (.t 37) (.t 38)⟩, ⟨some 2, none, .mv (.t 39)⟩] [0, 1, 2, 8])
 (.seq (.reg false [⟨some 40, none, .mv (.t 2)⟩, ⟨some 41, none, .bin .shr (.t 40) (.k (.w 32#64))⟩, ⟨some 9, none, .mv (.t 41)⟩] [0, 1, 2, 8, 9])
 (.seq (.reg false [⟨some 42, none, .mv (.t 2)⟩, ⟨some 43, none, .bin .and (.t 42) (.k (.w 4294967295#64))⟩, ⟨some 10, none, .mv (.t 43)⟩] [0, 1, 2, 8, 9, 10])
 (.seq (.reg false [⟨some 44, none, .mv (.t 0)⟩, ⟨some 45, none, .mv (.t 8)⟩, ⟨some 46, none, .bin .shl (.t 44) (.t 45)⟩, ⟨some 47, none, .mv (.t 1)⟩, ⟨some 48, none, .mv (.t 8)⟩, ⟨some 49, none, .bin .sub (.k (.w 64#64)) (.t 48)⟩, ⟨some 50, none, .bin .shr (.t 47) (.t 49)⟩, ⟨some 51, none, .bin .or (.t 46) (.t 50)⟩, ⟨some 11, none, .mv (.t 51)⟩] [1, 2, 8, 9, 10, 11])
 (.seq (.reg false [⟨some 52, none, .mv (.t 1)⟩, ⟨some 53, none, .mv (.t 8)⟩, ⟨some 54, none, .bin .shl (.t 52) (.t 53)⟩, ⟨some 12, none, .mv (.t 54)⟩] [2, 8, 9, 10, 11, 12])
 (.seq (.reg false [⟨some 55, none, .mv (.t 12)⟩, ⟨some 56, none, .bin .shr (.t 55) (.k (.w 32#64))⟩, ⟨some 13, none, .mv (.t 56)⟩] [2, 8, 9, 10, 11, 12, 13])
 (.seq (.reg false [⟨some 57, none, .mv (.t 12)⟩, ⟨some 58, none, .bin .and (.t 57) (.k (.w 4294967295#64))⟩, ⟨some 14, none, .mv (.t 58)⟩] [2, 8, 9, 10, 11, 13, 14])
 (.seq (.reg false [⟨some 59, none, .mv (.t 11)⟩, ⟨some 60, none, .mv (.t 9)⟩, ⟨some 61, none, .bin .quo (.t 59) (.t 60)⟩, ⟨some 15, none, .mv (.t 61)⟩] [2, 8, 9, 10, 11, 13, 14, 15])
 (.seq (.reg false [⟨some 62, none, .mv (.t 11)⟩, ⟨some 63, none, .mv (.t 15)⟩, ⟨some 64, none, .mv (.t 9)⟩, ⟨some 65, none, .bin .mul (.t 63) (.t 64)⟩, ⟨some 66, none, .bin .sub (.t 62) (.t 65)⟩, ⟨some 16, none, .mv (.t 66)⟩] [2, 8, 9, 10, 11, 13, 14, 15, 16])
 (.seq (.block 0 (.loop [(2, .keep), (8, .keep), (9, .keep), (10, .keep), (11, .keep), (13, .keep), (14, .keep), (15, .keep), (16, .keep)] F67_l0))
 (.kp [(2, .keep), (8, .keep), (9, .keep), (10, .keep), (11, .keep), (13, .keep), (14, .keep), (15, .keep)] F67_t1)))))))))))))
def F67_t3 : AC :=
 (.seq (.seq (.reg false [⟨some 22, none, .mv (.t 2)⟩, ⟨some 23, none, .mv (.t 0)⟩, ⟨some 24, none, .bin .leq (.t 22) (.t 23)⟩] [0, 1, 2, 24])
 (.cond (.t 24) (.reg false [⟨some 25, none, .refuse⟩, ⟨none, none, .refuse⟩] [0, 1, 2]) .skip))
 (.kp [(0, .keep), (1, .keep), (2, .keep)] F67_t2))
def F67_c : AC :=
 (.seq (.reg false [⟨some 6, none, .mv (.k (.w 0#64))⟩, ⟨some 7, none, .mv (.k (.w 0#64))⟩] [0, 1, 2])
 (.seq (.seq (.reg false [⟨some 19, none, .mv (.t 2)⟩, ⟨some 20, none, .bin .eql (.t 19) (.k (.w 0#64))⟩] [0, 1, 2, 20])
 (.cond (.t 20) (.reg false [⟨some 21, none, .refuse⟩, ⟨none, none, .refuse⟩] [0, 1, 2]) .skip))
 (.kp [(0, .keep), (1, .keep), (2, .keep)] F67_t3)))
def F67 : AFunc := ⟨3, [.t 6, .t 7], [], F67_c⟩
end Go.Proofs.Ytghhjbbildemiaa.AM

namespace Go.Proofs.Ytghhjbbildemiaa.AM
open Go
/-- impl.DivWord -/
def F68_c : AC :=
 (.seq (.reg false [⟨some 6, none, .mv (.k (.w 0#64))⟩, ⟨some 7, none, .mv (.k (.w 0#64))⟩, ⟨some 8, none, .mv (.k (.bool false))⟩] [0, 1, 2])
 (.seq (.block 0 (.seq (.reg false [⟨some 12, none, .mv (.t 0)⟩, ⟨some 13, none, .mv (.t 1)⟩, ⟨some 14, none, .mv (.t 2)⟩, ⟨some 15, none, .pcall (.f 64) [.t 12, .t 13, .t 14]⟩, ⟨some 16, none, .un .not (.t 15)⟩, ⟨some 11, none, .mv (.t 16)⟩] [0, 1, 2, 11])
  (.cond (.t 11) (.seq (.reg false [⟨some 6, none, .mv (.k (.w 0#64))⟩, ⟨some 7, none, .mv (.k (.w 0#64))⟩, ⟨some 8, none, .mv (.k (.bool false))⟩] [6, 7, 8])
   .ret) (.seq (.reg false [⟨some 18, none, .mv (.t 2)⟩, ⟨some 19, none, .bin .eql (.t 18) (.k (.w 0#64))⟩, ⟨some 17, none, .mv (.t 19)⟩] [0, 1, 2, 17])
   (.cond (.t 17) (.seq (.reg false [⟨some 20, none, .mv (.t 0)⟩, ⟨some 21, none, .pcall (.f 19) [.t 20]⟩, ⟨some 22, none, .mv (.t 1)⟩, ⟨some 6, none, .mv (.t 21)⟩, ⟨some 7, none, .mv (.t 22)⟩, ⟨some 8, none, .mv (.k (.bool true))⟩] [6, 7, 8])
    .ret) .skip)))))
 (.seq (.reg false [⟨some 24, none, .mv (.t 1)⟩, ⟨some 25, none, .mv (.t 2)⟩, ⟨some 26, none, .pcall (.f 67) [.k (.w 0#64), .t 24, .t 25]⟩, ⟨some 23, none, .mv (.t 26)⟩, ⟨some 27, none, .ext (.t 23) 0⟩, ⟨some 28, none, .ext (.t 23) 1⟩, ⟨some 9, none, .mv (.t 27)⟩, ⟨some 10, none, .mv (.t 28)⟩] [9, 10])
 (.seq (.reg false [⟨some 29, none, .mv (.t 9)⟩, ⟨some 30, none, .mv (.t 10)⟩, ⟨some 6, none, .mv (.t 29)⟩, ⟨some 7, none, .mv (.t 30)⟩, ⟨some 8, none, .mv (.k (.bool true))⟩] [6, 7, 8])
 .ret))))
def F68 : AFunc := ⟨3, [.t 6, .t 7, .t 8], [], F68_c⟩
/-- impl.shift -/
def F69_c : AC :=
 (.seq (.reg false [⟨some 8, none, .mv (.k (.w 0#64))⟩] [0, 1, 2, 3])
 (.seq (.block 0 (.seq (.reg false [⟨some 10, none, .mv (.t 2)⟩, ⟨some 11, none, .mv (.t 0)⟩, ⟨some 12, none, .conv .u64 (.t 11)⟩, ⟨some 13, none, .bin .geq (.t 10) (.t 12)⟩, ⟨some 9, none, .mv (.t 13)⟩] [0, 1, 2, 3, 9])
  (.cond (.t 9) (.seq (.reg false [⟨some 8, none, .mv (.k (.w 0#64))⟩] [8])
   .ret) (.seq (.reg false [⟨some 15, none, .mv (.t 3)⟩, ⟨some 14, none, .mv (.t 15)⟩] [0, 1, 2, 14])
   (.cond (.t 14) (.seq (.reg false [⟨some 16, none, .mv (.t 1)⟩, ⟨some 17, none, .mv (.t 2)⟩, ⟨some 18, none, .bin .shl (.t 16) (.t 17)⟩, ⟨some 19, none, .mv (.t 0)⟩, ⟨some 20, none, .pcall (.f 19) [.t 19]⟩, ⟨some 21, none, .bin .and (.t 18) (.t 20)⟩, ⟨some 8, none, .mv (.t 21)⟩] [8])
    .ret) .skip)))))
 (.seq (.reg false [⟨some 22, none, .mv (.t 1)⟩, ⟨some 23, none, .mv (.t 2)⟩, ⟨some 24, none, .bin .shr (.t 22) (.t 23)⟩, ⟨some 8, none, .mv (.t 24)⟩] [8])
 .ret)))
def F69 : AFunc := ⟨4, [.t 8], [], F69_c⟩
/-- impl.truth -/
def F70_c : AC :=
 (.seq (.reg false [⟨some 2, none, .mv (.k (.w 0#64))⟩] [0])
 (.seq (.seq (.reg false [⟨some 3, none, .mv (.t 0)⟩] [3])
 (.cond (.t 3) (.seq (.reg false [⟨some 2, none, .mv (.k (.w 1#64))⟩] [2])
  .ret) .skip))
 (.seq (.reg false [⟨some 2, none, .mv (.k (.w 0#64))⟩] [2])
 .ret)))
def F70 : AFunc := ⟨1, [.t 2], [], F70_c⟩
/-- impl.signed -/
def F71_c : AC :=
 (.seq (.reg false [⟨some 4, none, .mv (.k (.int .i64 0))⟩] [0, 1])
 (.seq (.reg false [⟨some 5, none, .mv (.t 1)⟩, ⟨some 6, none, .mv (.t 0)⟩, ⟨some 7, none, .bin .sub (.k (.int .i64 64)) (.t 6)⟩, ⟨some 8, none, .bin .shl (.t 5) (.t 7)⟩, ⟨some 9, none, .conv .i64 (.t 8)⟩, ⟨some 10, none, .mv (.t 0)⟩, ⟨some 11, none, .bin .sub (.k (.int .i64 64)) (.t 10)⟩, ⟨some 12, none, .bin .shr (.t 9) (.t 11)⟩, ⟨some 4, none, .mv (.t 12)⟩] [4])
 .ret))
def F71 : AFunc := ⟨2, [.t 4], [], F71_c⟩
/-- impl.apply -/
def F72_t0 : AC :=
 (.cond (.t 63) (.reg false [⟨some 66, none, .mv (.t 0)⟩, ⟨some 67, none, .mv (.t 2)⟩, ⟨some 68, none, .mv (.t 3)⟩, ⟨some 69, none, .mv (.t 1)⟩, ⟨some 70, none, .bin .eql (.t 69) (.k (.int .i64 11))⟩, ⟨some 71, none, .pcall (.f 69) [.t 66, .t 67, .t 68, .t 70]⟩, ⟨some 9, none, .mv (.t 71)⟩] [0, 9]) (.seq (.reg false [⟨some 73, none, .bin .eql (.t 10) (.k (.int .i64 14))⟩, ⟨some 72, none, .mv (.t 73)⟩] [0, 2, 3, 9, 10, 72])
  (.cond (.t 72) (.reg false [⟨some 74, none, .mv (.t 2)⟩, ⟨some 75, none, .mv (.t 3)⟩, ⟨some 76, none, .bin .eql (.t 74) (.t 75)⟩, ⟨some 77, none, .pcall (.f 70) [.t 76]⟩, ⟨some 9, none, .mv (.t 77)⟩] [0, 9]) (.seq (.reg false [⟨some 79, none, .bin .eql (.t 10) (.k (.int .i64 15))⟩, ⟨some 78, none, .mv (.t 79)⟩] [0, 2, 3, 9, 10, 78])
   (.cond (.t 78) (.reg false [⟨some 80, none, .mv (.t 2)⟩, ⟨some 81, none, .mv (.t 3)⟩, ⟨some 82, none, .bin .lss (.t 80) (.t 81)⟩, ⟨some 83, none, .pcall (.f 70) [.t 82]⟩, ⟨some 9, none, .mv (.t 83)⟩] [0, 9]) (.seq (.reg false [⟨some 85, none, .bin .eql (.t 10) (.k (.int .i64 16))⟩, ⟨some 84, none, .mv (.t 85)⟩] [0, 2, 3, 9, 84])
    (.cond (.t 84) (.reg false [⟨some 86, none, .mv (.t 0)⟩, ⟨some 87, none, .mv (.t 2)⟩, ⟨some 88, none, .pcall (.f 71) [.t 86, .t 87]⟩, ⟨some 89, none, .mv (.t 0)⟩, ⟨some 90, none, .mv (.t 3)⟩, ⟨some 91, none, .pcall (.f 71) [.t 89, .t 90]⟩, ⟨some 92, none, .bin .lss (.t 88) (.t 91)⟩, ⟨some 93, none, .pcall (.f 70) [.t 92]⟩, ⟨some 9, none, .mv (.t 93)⟩] [0, 9]) .skip)))))))
def F72_t1 : AC :=
 (.cond (.t 52) (.reg false [⟨some 55, none, .mv (.t 2)⟩, ⟨some 56, none, .mv (.t 3)⟩, ⟨some 57, none, .bin .or (.t 55) (.t 56)⟩, ⟨some 9, none, .mv (.t 57)⟩] [0, 9]) (.seq (.reg false [⟨some 59, none, .bin .eql (.t 10) (.k (.int .i64 10))⟩, ⟨some 58, none, .mv (.t 59)⟩] [0, 1, 2, 3, 9, 10, 58])
  (.cond (.t 58) (.reg false [⟨some 60, none, .mv (.t 2)⟩, ⟨some 61, none, .mv (.t 3)⟩, ⟨some 62, none, .bin .xor (.t 60) (.t 61)⟩, ⟨some 9, none, .mv (.t 62)⟩] [0, 9]) (.seq (.seq (.reg false [⟨some 64, none, .bin .eql (.t 10) (.k (.int .i64 11))⟩, ⟨some 63, none, .mv (.t 64)⟩] [0, 1, 2, 3, 9, 10, 63])
   (.cond (.t 63) .skip (.reg false [⟨some 65, none, .bin .eql (.t 10) (.k (.int .i64 12))⟩, ⟨some 63, none, .mv (.t 65)⟩] [0, 1, 2, 3, 9, 10, 63])))
   (.kp [(0, .keep), (1, .keep), (2, .keep), (3, .keep), (9, .keep), (10, .keep), (63, .keep)] F72_t0)))))
def F72_t2 : AC :=
 (.cond (.t 46) (.reg false [⟨some 49, none, .mv (.t 2)⟩, ⟨some 50, none, .mv (.t 3)⟩, ⟨some 51, none, .bin .and (.t 49) (.t 50)⟩, ⟨some 9, none, .mv (.t 51)⟩] [0, 9]) (.seq (.seq (.reg false [⟨some 53, none, .bin .eql (.t 10) (.k (.int .i64 9))⟩, ⟨some 52, none, .mv (.t 53)⟩] [0, 1, 2, 3, 9, 10, 52])
  (.cond (.t 52) .skip (.reg false [⟨some 54, none, .bin .eql (.t 10) (.k (.int .i64 18))⟩, ⟨some 52, none, .mv (.t 54)⟩] [0, 1, 2, 3, 9, 10, 52])))
  (.kp [(0, .keep), (1, .keep), (2, .keep), (3, .keep), (9, .keep), (10, .keep), (52, .keep)] F72_t1)))
def F72_t3 : AC :=
 (.seq (.reg false [⟨some 94, none, .mv (.t 9)⟩, ⟨some 95, none, .mv (.t 0)⟩, ⟨some 96, none, .pcall (.f 19) [.t 95]⟩, ⟨some 97, none, .bin .and (.t 94) (.t 96)⟩, ⟨some 8, none, .mv (.t 97)⟩] [8])
 .ret)
def F72_c : AC :=
 (.seq (.reg false [⟨some 8, none, .mv (.k (.w 0#64))⟩] [0, 1, 2, 3])
 (.seq (.reg false [⟨some 9, none, .mv (.k (.w 0#64))⟩] [0, 1, 2, 3, 9])
 (.seq (.seq (.reg false [⟨some 10, none, .mv (.t 1)⟩] [0, 1, 2, 3, 9, 10])
 (.block 0 (.seq (.reg false [⟨some 12, none, .bin .eql (.t 10) (.k (.int .i64 3))⟩, ⟨some 11, none, .mv (.t 12)⟩] [0, 1, 2, 3, 9, 10, 11])
  (.cond (.t 11) (.reg false [⟨some 13, none, .mv (.t 2)⟩, ⟨some 14, none, .mv (.t 3)⟩, ⟨some 15, none, .bin .add (.t 13) (.t 14)⟩, ⟨some 9, none, .mv (.t 15)⟩] [0, 9]) (.seq (.reg false [⟨some 17, none, .bin .eql (.t 10) (.k (.int .i64 4))⟩, ⟨some 16, none, .mv (.t 17)⟩] [0, 1, 2, 3, 9, 10, 16])
   (.cond (.t 16) (.reg false [⟨some 18, none, .mv (.t 2)⟩, ⟨some 19, none, .mv (.t 3)⟩, ⟨some 20, none, .bin .sub (.t 18) (.t 19)⟩, ⟨some 9, none, .mv (.t 20)⟩] [0, 9]) (.seq (.reg false [⟨some 22, none, .bin .eql (.t 10) (.k (.int .i64 5))⟩, ⟨some 21, none, .mv (.t 22)⟩] [0, 1, 2, 3, 9, 10, 21])
    (.cond (.t 21) (.reg false [⟨some 23, none, .mv (.t 2)⟩, ⟨some 24, none, .mv (.t 3)⟩, ⟨some 25, none, .bin .mul (.t 23) (.t 24)⟩, ⟨some 9, none, .mv (.t 25)⟩] [0, 9]) (.seq (.reg false [⟨some 27, none, .bin .eql (.t 10) (.k (.int .i64 6))⟩, ⟨some 26, none, .mv (.t 27)⟩] [0, 1, 2, 3, 9, 10, 26])
     (.cond (.t 26) (.reg false [⟨some 29, none, .mv (.t 0)⟩, ⟨some 30, none, .mv (.t 2)⟩, ⟨some 31, none, .mv (.t 3)⟩, ⟨some 32, none, .pcall (.f 68) [.t 29, .t 30, .t 31]⟩, ⟨some 28, none, .mv (.t 32)⟩, ⟨some 33, none, .ext (.t 28) 0⟩, ⟨some 34, none, .ext (.t 28) 1⟩, ⟨some 35, none, .ext (.t 28) 2⟩, ⟨some 9, none, .mv (.t 33)⟩] [0, 9]) (.seq (.reg false [⟨some 37, none, .bin .eql (.t 10) (.k (.int .i64 7))⟩, ⟨some 36, none, .mv (.t 37)⟩] [0, 1, 2, 3, 9, 10, 36])
      (.cond (.t 36) (.reg false [⟨some 39, none, .mv (.t 0)⟩, ⟨some 40, none, .mv (.t 2)⟩, ⟨some 41, none, .mv (.t 3)⟩, ⟨some 42, none, .pcall (.f 68) [.t 39, .t 40, .t 41]⟩, ⟨some 38, none, .mv (.t 42)⟩, ⟨some 43, none, .ext (.t 38) 0⟩, ⟨some 44, none, .ext (.t 38) 1⟩, ⟨some 45, none, .ext (.t 38) 2⟩, ⟨some 9, none, .mv (.t 44)⟩] [0, 9]) (.seq (.seq (.reg false [⟨some 47, none, .bin .eql (.t 10) (.k (.int .i64 8))⟩, ⟨some 46, none, .mv (.t 47)⟩] [0, 1, 2, 3, 9, 10, 46])
       (.cond (.t 46) .skip (.reg false [⟨some 48, none, .bin .eql (.t 10) (.k (.int .i64 17))⟩, ⟨some 46, none, .mv (.t 48)⟩] [0, 1, 2, 3, 9, 10, 46])))
       (.kp [(0, .keep), (1, .keep), (2, .keep), (3, .keep), (9, .keep), (10, .keep), (46, .keep)] F72_t2))))))))))))))
 (.kp [(0, .keep), (9, .keep)] F72_t3))))
def F72 : AFunc := ⟨4, [.t 8], [], F72_c⟩
/-- impl.valueOf -/
def F73_t0 : AC :=
 (.cond (.t 42) (.reg false [⟨some 45, none, .mv (.t 7)⟩, ⟨some 46, none, .faddr 1 (.t 9)⟩, ⟨some 47, none, .load none (.t 46)⟩, ⟨some 48, none, .bslice 1 [(.w 0#64)] 1 [(0, .t 47)]⟩, ⟨some 49, none, .append 1 (.t 45) (.t 48)⟩, ⟨some 7, none, .mv (.t 49)⟩] [0, 2, 7, 12, 13, 14]) (.seq (.reg false [⟨some 51, none, .bin .eql (.t 22) (.k (.int .i64 2))⟩, ⟨some 50, none, .mv (.t 51)⟩] [0, 2, 7, 9, 10, 12, 13, 14, 22, 50])
  (.cond (.t 50) (.reg false [⟨some 52, none, .mv (.t 7)⟩, ⟨some 53, none, .mv (.t 2)⟩, ⟨some 54, none, .faddr 1 (.t 9)⟩, ⟨some 55, none, .load none (.t 54)⟩, ⟨some 56, none, .iaddr 1 (.t 53) (.t 55)⟩, ⟨some 57, none, .load none (.t 56)⟩, ⟨some 58, none, .bslice 1 [(.w 0#64)] 1 [(0, .t 57)]⟩, ⟨some 59, none, .append 1 (.t 52) (.t 58)⟩, ⟨some 7, none, .mv (.t 59)⟩] [0, 2, 7, 12, 13, 14]) (.seq (.reg false [⟨some 61, none, .bin .eql (.t 22) (.k (.int .i64 13))⟩, ⟨some 60, none, .mv (.t 61)⟩] [0, 2, 7, 9, 10, 12, 13, 14, 22, 60])
   (.cond (.t 60) (.reg true [⟨some 62, none, .mv (.t 7)⟩, ⟨some 63, none, .mv (.t 10)⟩, ⟨some 64, none, .mv (.t 7)⟩, ⟨some 65, none, .mv (.t 10)⟩, ⟨some 66, none, .iaddr 1 (.t 64) (.t 65)⟩, ⟨some 67, none, .load none (.t 66)⟩, ⟨some 68, none, .un .xor (.t 67)⟩, ⟨some 69, none, .mv (.t 0)⟩, ⟨some 70, none, .pcall (.f 19) [.t 69]⟩, ⟨some 71, none, .bin .and (.t 68) (.t 70)⟩, ⟨some 72, none, .iaddr 1 (.t 62) (.t 63)⟩, ⟨none, none, .store 1 (.t 72) (.t 71)⟩] [0, 2, 7, 12, 13, 14]) (.seq (.reg false [⟨some 74, none, .bin .eql (.t 22) (.k (.int .i64 19))⟩, ⟨some 73, none, .mv (.t 74)⟩] [0, 2, 7, 9, 10, 12, 13, 14, 73])
    (.cond (.t 73) (.reg false [⟨some 75, none, .mv (.t 7)⟩, ⟨some 76, none, .mv (.t 10)⟩, ⟨some 77, none, .mv (.t 7)⟩, ⟨some 78, none, .mv (.t 10)⟩, ⟨some 79, none, .iaddr 1 (.t 77) (.t 78)⟩, ⟨some 80, none, .load none (.t 79)⟩, ⟨some 81, none, .bin .sub (.k (.w 1#64)) (.t 80)⟩, ⟨some 82, none, .iaddr 1 (.t 75) (.t 76)⟩, ⟨none, none, .store 1 (.t 82) (.t 81)⟩] [0, 2, 7, 12, 13, 14]) (.reg true [⟨some 23, none, .mv (.t 7)⟩, ⟨some 24, none, .mv (.t 10)⟩, ⟨some 25, none, .bin .sub (.t 24) (.k (.int .i64 1))⟩, ⟨some 26, none, .slice 1 (.t 23) none (some (.t 25))⟩, ⟨some 27, none, .mv (.t 0)⟩, ⟨some 28, none, .faddr 0 (.t 9)⟩, ⟨some 29, none, .load none (.t 28)⟩, ⟨some 30, none, .mv (.t 7)⟩, ⟨some 31, none, .mv (.t 10)⟩, ⟨some 32, none, .bin .sub (.t 31) (.k (.int .i64 1))⟩, ⟨some 33, none, .iaddr 1 (.t 30) (.t 32)⟩, ⟨some 34, none, .load none (.t 33)⟩, ⟨some 35, none, .mv (.t 7)⟩, ⟨some 36, none, .mv (.t 10)⟩, ⟨some 37, none, .iaddr 1 (.t 35) (.t 36)⟩, ⟨some 38, none, .load none (.t 37)⟩, ⟨some 39, none, .pcall (.f 72) [.t 27, .t 29, .t 34, .t 38]⟩, ⟨some 40, none, .bslice 1 [(.w 0#64)] 1 [(0, .t 39)]⟩, ⟨some 41, none, .append 1 (.t 26) (.t 40)⟩, ⟨some 7, none, .mv (.t 41)⟩] [0, 2, 7, 12, 13, 14]))))))))
def F73_t1 : AC :=
 (.reg false [⟨some 83, none, .bin .add (.t 14) (.k (.int .i64 1))⟩, ⟨some 14, none, .mv (.t 83)⟩] [0, 2, 7, 12, 13, 14])
def F73_b0 : AC := (.seq (.reg false [⟨some 15, none, .bin .lss (.t 14) (.t 13)⟩] [0, 2, 7, 12, 13, 14, 15])
   (.seq (.cond (.t 15) .skip (.exit 0))
   (.seq (.block 1 (.seq (.reg false [⟨some 16, none, .iaddr 2 (.t 12) (.t 14)⟩, ⟨some 17, none, .load (some 2) (.t 16)⟩, ⟨some 9, none, .alloc [.d (.int .i64 0), .d (.w 0#64)]⟩, ⟨none, none, .store 2 (.t 9) (.t 17)⟩] [0, 2, 7, 9, 12, 13, 14])
    (.seq (.reg false [⟨some 18, none, .mv (.t 7)⟩, ⟨some 19, none, .len (.t 18)⟩, ⟨some 20, none, .bin .sub (.t 19) (.k (.int .i64 1))⟩, ⟨some 10, none, .mv (.t 20)⟩] [0, 2, 7, 9, 10, 12, 13, 14])
    (.seq (.reg false [⟨some 21, none, .faddr 0 (.t 9)⟩, ⟨some 22, none, .load none (.t 21)⟩] [0, 2, 7, 9, 10, 12, 13, 14, 22])
    (.block 2 (.seq (.seq (.reg false [⟨some 43, none, .bin .eql (.t 22) (.k (.int .i64 1))⟩, ⟨some 42, none, .mv (.t 43)⟩] [0, 2, 7, 9, 10, 12, 13, 14, 22, 42])
     (.cond (.t 42) .skip (.reg false [⟨some 44, none, .bin .eql (.t 22) (.k (.int .i64 20))⟩, ⟨some 42, none, .mv (.t 44)⟩] [0, 2, 7, 9, 10, 12, 13, 14, 22, 42])))
     (.kp [(0, .keep), (2, .keep), (7, .keep), (9, .keep), (10, .keep), (12, .keep), (13, .keep), (14, .keep), (22, .keep), (42, .keep)] F73_t0)))))))
   (.kp [(0, .keep), (2, .keep), (7, .keep), (12, .keep), (13, .keep), (14, .keep)] F73_t1))))
def F73_l0 : AC := F73_b0
@[simp] theorem u73_0 (T : Nat → Option AFunc) (X : Orc) (F : AFunc) (m : Nat) (K : List AT) (e : Env) (st : St) : go T X F m (.code F73_l0 :: K) e st = go T X F m (.code F73_b0 :: K) e st := rfl
def F73_t2 : AC :=
 (.seq (.reg false [⟨some 84, none, .mv (.t 7)⟩, ⟨some 85, none, .iaddr 1 (.t 84) (.k (.int .i64 0))⟩, ⟨some 86, none, .load none (.t 85)⟩, ⟨some 6, none, .mv (.t 86)⟩] [6])
 .ret)
def F73_c : AC :=
 (.seq (.reg false [⟨some 6, none, .mv (.k (.w 0#64))⟩] [0, 1, 2])
 (.seq (.reg false [⟨some 11, none, .bslice 1 [(.w 0#64)] 0 []⟩, ⟨some 7, none, .mv (.t 11)⟩] [0, 1, 2, 7])
 (.seq (.seq (.reg false [⟨some 12, none, .mv (.t 1)⟩, ⟨some 13, none, .len (.t 12)⟩, ⟨some 14, none, .mv (.k (.int .i64 0))⟩] [0, 2, 7, 12, 13, 14])
 (.block 0 (.loop [(0, .keep), (2, .keep), (7, .ow 1), (12, .keep), (13, .keep), (14, .keep)] F73_l0)))
 (.kp [(7, .keep)] F73_t2))))
def F73 : AFunc := ⟨3, [.t 6], [], F73_c⟩
/-- impl.ValueOf -/
def F74_c : AC :=
 (.seq (.reg false [⟨some 6, none, .mv (.k (.w 0#64))⟩, ⟨some 7, none, .mv (.k (.bool false))⟩] [0, 1, 2])
 (.seq (.seq (.reg false [⟨some 8, none, .mv (.t 0)⟩, ⟨some 9, none, .mv (.t 2)⟩, ⟨some 10, none, .len (.t 9)⟩, ⟨some 11, none, .mv (.t 2)⟩, ⟨some 12, none, .lcall (.f 61) [.t 8, .t 10, .t 11]⟩, ⟨some 13, none, .un .not (.t 12)⟩, ⟨some 14, none, .mv (.t 13)⟩, ⟨some 15, (some (14, false)), .mv (.t 0)⟩, ⟨some 16, (some (14, false)), .mv (.t 2)⟩, ⟨some 17, (some (14, false)), .len (.t 16)⟩, ⟨some 18, (some (14, false)), .mv (.t 1)⟩, ⟨some 19, (some (14, false)), .lcall (.f 29) [.t 15, .t 17, .t 18]⟩, ⟨some 20, (some (14, false)), .un .not (.t 19)⟩, ⟨some 21, none, .pick (.t 14) (.k (.bool true)) (.t 20)⟩] [0, 1, 2, 21])
 (.cond (.t 21) (.seq (.reg false [⟨some 6, none, .mv (.k (.w 0#64))⟩, ⟨some 7, none, .mv (.k (.bool false))⟩] [6, 7])
  .ret) .skip))
 (.seq (.reg false [⟨some 22, none, .mv (.t 0)⟩, ⟨some 23, none, .mv (.t 1)⟩, ⟨some 24, none, .mv (.t 2)⟩, ⟨some 25, none, .lcall (.f 73) [.t 22, .t 23, .t 24]⟩, ⟨some 6, none, .mv (.t 25)⟩, ⟨some 7, none, .mv (.k (.bool true))⟩] [6, 7])
 .ret)))
def F74 : AFunc := ⟨3, [.t 6, .t 7], [], F74_c⟩
/-- (*spec.l1Cur).width -/
def F75_c : AC :=
 (.seq (.reg false [⟨some 2, none, .mv (.k (.int .i64 0))⟩] [0])
 (.seq (.reg false [⟨some 3, none, .mv (.t 0)⟩, ⟨some 4, none, .bslice 1 [(.int .i64 0)] 11 [(0, .k (.int .i64 1)), (1, .k (.int .i64 2)), (2, .k (.int .i64 3)), (3, .k (.int .i64 4)), (4, .k (.int .i64 8)), (5, .k (.int .i64 16)), (6, .k (.int .i64 32)), (7, .k (.int .i64 63)), (8, .k (.int .i64 64)), (9, .k (.int .i64 0)), (10, .k (.int .i64 65))]⟩, ⟨some 5, none, .call false [] (.f 4) [.t 3, .t 4]⟩, ⟨some 2, none, .mv (.t 5)⟩] [2])
 .ret))
def F75 : AFunc := ⟨1, [.t 2], [], F75_c⟩
/-- spec.DrawJoinSpans -/
def F76_c : AC :=
 (.seq (.reg false [⟨some 2, none, .mv (.k (.int .i64 0))⟩, ⟨some 3, none, .alloc [.d (.w 0#64), .d (.w 0#64)]⟩, ⟨some 4, none, .alloc [.d (.w 0#64), .d (.w 0#64)]⟩] [0, 3, 4])
 (.seq (.reg false [⟨some 7, none, .mv (.t 0)⟩, ⟨some 8, none, .build [.d .nil, .d (.int .i64 0), .d (.w 0#64)] [(0, 1, .t 7)]⟩, ⟨some 9, none, .box (.t 8)⟩, ⟨some 5, none, .mv (.t 9)⟩] [3, 4, 5])
 (.seq (.reg false [⟨some 10, none, .mv (.t 5)⟩, ⟨some 11, none, .call false [] (.f 75) [.t 10]⟩, ⟨some 6, none, .mv (.t 11)⟩] [3, 4, 5, 6])
 (.seq (.reg false [⟨some 12, none, .mv (.t 6)⟩, ⟨some 13, none, .mv (.t 5)⟩, ⟨some 14, none, .mv (.t 6)⟩, ⟨some 15, none, .call false [] (.f 12) [.t 13, .t 14]⟩, ⟨some 16, none, .mv (.t 5)⟩, ⟨some 17, none, .mv (.t 6)⟩, ⟨some 18, none, .call false [] (.f 12) [.t 16, .t 17]⟩, ⟨some 2, none, .mv (.t 12)⟩, ⟨none, none, .store 2 (.t 3) (.t 15)⟩, ⟨none, none, .store 2 (.t 4) (.t 18)⟩] [2, 3, 4])
 .ret))))
def F76 : AFunc := ⟨1, [.t 2, .cell 3 (some 2), .cell 4 (some 2)], [], F76_c⟩
/-- impl.join -/
def F77_c : AC :=
 (.seq (.reg false [⟨some 2, none, .box (.t 0)⟩, ⟨some 3, none, .box (.t 1)⟩, ⟨some 4, none, .alloc [.d (.w 0#64), .d (.w 0#64)]⟩] [2, 3, 4])
 (.seq (.reg false [⟨some 5, none, .faddr 0 (.t 2)⟩, ⟨some 6, none, .load none (.t 5)⟩, ⟨some 7, none, .faddr 0 (.t 3)⟩, ⟨some 8, none, .load none (.t 7)⟩, ⟨some 9, none, .min (.t 6) (.t 8)⟩, ⟨some 10, none, .faddr 1 (.t 2)⟩, ⟨some 11, none, .load none (.t 10)⟩, ⟨some 12, none, .faddr 1 (.t 3)⟩, ⟨some 13, none, .load none (.t 12)⟩, ⟨some 14, none, .max (.t 11) (.t 13)⟩, ⟨some 15, none, .build [.d (.w 0#64), .d (.w 0#64)] [(0, 1, .t 9), (1, 1, .t 14)]⟩, ⟨none, none, .store 2 (.t 4) (.t 15)⟩] [4])
 .ret))
def F77 : AFunc := ⟨2, [.cell 4 (some 2)], [], F77_c⟩
/-- impl.JoinSpans -/
def F78_c : AC :=
 (.seq (.reg false [⟨some 4, none, .box (.t 1)⟩, ⟨some 5, none, .box (.t 2)⟩, ⟨some 6, none, .alloc [.d (.w 0#64), .d (.w 0#64)]⟩, ⟨some 7, none, .mv (.k (.bool false))⟩] [0, 4, 5, 6])
 (.seq (.seq (.reg false [⟨some 8, none, .mv (.t 0)⟩, ⟨some 9, none, .load (some 2) (.t 4)⟩, ⟨some 10, none, .pcall (.f 21) [.t 8, .t 9]⟩, ⟨some 11, none, .un .not (.t 10)⟩, ⟨some 12, none, .mv (.t 11)⟩, ⟨some 13, (some (12, false)), .mv (.t 0)⟩, ⟨some 14, (some (12, false)), .load (some 2) (.t 5)⟩, ⟨some 15, (some (12, false)), .pcall (.f 21) [.t 13, .t 14]⟩, ⟨some 16, (some (12, false)), .un .not (.t 15)⟩, ⟨some 17, none, .pick (.t 12) (.k (.bool true)) (.t 16)⟩] [4, 5, 6, 17])
 (.cond (.t 17) (.seq (.reg false [⟨some 18, none, .build [.d (.w 0#64), .d (.w 0#64)] []⟩, ⟨none, none, .store 2 (.t 6) (.t 18)⟩, ⟨some 7, none, .mv (.k (.bool false))⟩] [6, 7])
  .ret) .skip))
 (.seq (.reg false [⟨some 19, none, .load (some 2) (.t 4)⟩, ⟨some 20, none, .load (some 2) (.t 5)⟩, ⟨some 21, none, .pcall (.f 77) [.t 19, .t 20]⟩, ⟨none, none, .store 2 (.t 6) (.t 21)⟩, ⟨some 7, none, .mv (.k (.bool true))⟩] [6, 7])
 .ret)))
def F78 : AFunc := ⟨3, [.cell 6 (some 2), .t 7], [], F78_c⟩
/-- spec.l18Join -/
def F79_c : AC :=
 (.seq (.reg false [⟨some 2, none, .box (.t 0)⟩, ⟨some 3, none, .box (.t 1)⟩, ⟨some 4, none, .alloc [.d (.w 0#64), .d (.w 0#64)]⟩] [2, 3, 4])
 (.seq (.reg true [⟨some 5, none, .faddr 0 (.t 2)⟩, ⟨some 6, none, .load none (.t 5)⟩, ⟨some 7, none, .faddr 0 (.t 3)⟩, ⟨some 8, none, .load none (.t 7)⟩, ⟨some 9, none, .pcall (.f 51) [.t 6, .t 8]⟩, ⟨some 10, none, .faddr 1 (.t 2)⟩, ⟨some 11, none, .load none (.t 10)⟩, ⟨some 12, none, .faddr 1 (.t 3)⟩, ⟨some 13, none, .load none (.t 12)⟩, ⟨some 14, none, .pcall (.f 50) [.t 11, .t 13]⟩, ⟨some 15, none, .build [.d (.w 0#64), .d (.w 0#64)] [(0, 1, .t 9), (1, 1, .t 14)]⟩, ⟨none, none, .store 2 (.t 4) (.t 15)⟩] [4])
 .ret))
def F79 : AFunc := ⟨2, [.cell 4 (some 2)], [], F79_c⟩
/-- spec.JoinSpans -/
def F80_c : AC :=
 (.seq (.reg false [⟨some 4, none, .box (.t 1)⟩, ⟨some 5, none, .box (.t 2)⟩, ⟨some 6, none, .alloc [.d (.w 0#64), .d (.w 0#64)]⟩, ⟨some 7, none, .mv (.k (.bool false))⟩] [0, 4, 5, 6])
 (.seq (.seq (.reg false [⟨some 8, none, .mv (.t 0)⟩, ⟨some 9, none, .load (some 2) (.t 4)⟩, ⟨some 10, none, .pcall (.f 47) [.t 8, .t 9]⟩, ⟨some 11, none, .un .not (.t 10)⟩, ⟨some 12, none, .mv (.t 11)⟩, ⟨some 13, (some (12, false)), .mv (.t 0)⟩, ⟨some 14, (some (12, false)), .load (some 2) (.t 5)⟩, ⟨some 15, (some (12, false)), .pcall (.f 47) [.t 13, .t 14]⟩, ⟨some 16, (some (12, false)), .un .not (.t 15)⟩, ⟨some 17, none, .pick (.t 12) (.k (.bool true)) (.t 16)⟩] [4, 5, 6, 17])
 (.cond (.t 17) (.seq (.reg false [⟨some 18, none, .build [.d (.w 0#64), .d (.w 0#64)] []⟩, ⟨none, none, .store 2 (.t 6) (.t 18)⟩, ⟨some 7, none, .mv (.k (.bool false))⟩] [6, 7])
  .ret) .skip))
 (.seq (.reg false [⟨some 19, none, .load (some 2) (.t 4)⟩, ⟨some 20, none, .load (some 2) (.t 5)⟩, ⟨some 21, none, .pcall (.f 79) [.t 19, .t 20]⟩, ⟨none, none, .store 2 (.t 6) (.t 21)⟩, ⟨some 7, none, .mv (.k (.bool true))⟩] [6, 7])
 .ret)))
def F80 : AFunc := ⟨3, [.cell 6 (some 2), .t 7], [], F80_c⟩
/-- impl.MeetSpans -/
def F81_c : AC :=
 (.seq (.reg false [⟨some 4, none, .box (.t 1)⟩, ⟨some 5, none, .box (.t 2)⟩, ⟨some 6, none, .alloc [.d (.w 0#64), .d (.w 0#64)]⟩, ⟨some 7, none, .mv (.k (.bool false))⟩] [0, 4, 5, 6])
 (.seq (.seq (.reg false [⟨some 8, none, .mv (.t 0)⟩, ⟨some 9, none, .load (some 2) (.t 4)⟩, ⟨some 10, none, .pcall (.f 21) [.t 8, .t 9]⟩, ⟨some 11, none, .un .not (.t 10)⟩, ⟨some 12, none, .mv (.t 11)⟩, ⟨some 13, (some (12, false)), .mv (.t 0)⟩, ⟨some 14, (some (12, false)), .load (some 2) (.t 5)⟩, ⟨some 15, (some (12, false)), .pcall (.f 21) [.t 13, .t 14]⟩, ⟨some 16, (some (12, false)), .un .not (.t 15)⟩, ⟨some 17, none, .pick (.t 12) (.k (.bool true)) (.t 16)⟩] [4, 5, 6, 17])
 (.cond (.t 17) (.seq (.reg false [⟨some 18, none, .build [.d (.w 0#64), .d (.w 0#64)] []⟩, ⟨none, none, .store 2 (.t 6) (.t 18)⟩, ⟨some 7, none, .mv (.k (.bool false))⟩] [6, 7])
  .ret) .skip))
 (.seq (.reg false [⟨some 19, none, .load (some 2) (.t 4)⟩, ⟨some 20, none, .load (some 2) (.t 5)⟩, ⟨some 21, none, .pcall (.f 30) [.t 19, .t 20]⟩, ⟨some 22, none, .ext (.t 21) 0⟩, ⟨some 23, none, .ext (.t 21) 1⟩, ⟨none, none, .store 2 (.t 6) (.t 22)⟩, ⟨some 7, none, .mv (.t 23)⟩] [6, 7])
 .ret)))
def F81 : AFunc := ⟨3, [.cell 6 (some 2), .t 7], [], F81_c⟩
/-- spec.MeetSpans -/
def F82_c : AC :=
 (.seq (.reg false [⟨some 4, none, .box (.t 1)⟩, ⟨some 5, none, .box (.t 2)⟩, ⟨some 6, none, .alloc [.d (.w 0#64), .d (.w 0#64)]⟩, ⟨some 7, none, .mv (.k (.bool false))⟩] [0, 4, 5, 6])
 (.seq (.seq (.reg false [⟨some 9, none, .mv (.t 0)⟩, ⟨some 10, none, .load (some 2) (.t 4)⟩, ⟨some 11, none, .pcall (.f 47) [.t 9, .t 10]⟩, ⟨some 12, none, .un .not (.t 11)⟩, ⟨some 13, none, .mv (.t 12)⟩, ⟨some 14, (some (13, false)), .mv (.t 0)⟩, ⟨some 15, (some (13, false)), .load (some 2) (.t 5)⟩, ⟨some 16, (some (13, false)), .pcall (.f 47) [.t 14, .t 15]⟩, ⟨some 17, (some (13, false)), .un .not (.t 16)⟩, ⟨some 18, none, .pick (.t 13) (.k (.bool true)) (.t 17)⟩] [4, 5, 6, 18])
 (.cond (.t 18) (.seq (.reg false [⟨some 19, none, .build [.d (.w 0#64), .d (.w 0#64)] []⟩, ⟨none, none, .store 2 (.t 6) (.t 19)⟩, ⟨some 7, none, .mv (.k (.bool false))⟩] [6, 7])
  .ret) .skip))
 (.seq (.reg true [⟨some 20, none, .faddr 0 (.t 4)⟩, ⟨some 21, none, .load none (.t 20)⟩, ⟨some 22, none, .faddr 0 (.t 5)⟩, ⟨some 23, none, .load none (.t 22)⟩, ⟨some 24, none, .pcall (.f 50) [.t 21, .t 23]⟩, ⟨some 25, none, .faddr 1 (.t 4)⟩, ⟨some 26, none, .load none (.t 25)⟩, ⟨some 27, none, .faddr 1 (.t 5)⟩, ⟨some 28, none, .load none (.t 27)⟩, ⟨some 29, none, .pcall (.f 51) [.t 26, .t 28]⟩, ⟨some 30, none, .build [.d (.w 0#64), .d (.w 0#64)] [(0, 1, .t 24), (1, 1, .t 29)]⟩, ⟨some 8, none, .alloc [.d (.w 0#64), .d (.w 0#64)]⟩, ⟨none, none, .store 2 (.t 8) (.t 30)⟩] [6, 8])
 (.seq (.seq (.reg false [⟨some 31, none, .faddr 0 (.t 8)⟩, ⟨some 32, none, .load none (.t 31)⟩, ⟨some 33, none, .faddr 1 (.t 8)⟩, ⟨some 34, none, .load none (.t 33)⟩, ⟨some 35, none, .bin .gtr (.t 32) (.t 34)⟩] [6, 8, 35])
 (.cond (.t 35) (.seq (.reg false [⟨some 36, none, .build [.d (.w 0#64), .d (.w 0#64)] []⟩, ⟨none, none, .store 2 (.t 6) (.t 36)⟩, ⟨some 7, none, .mv (.k (.bool false))⟩] [6, 7])
  .ret) .skip))
 (.seq (.reg false [⟨some 37, none, .load (some 2) (.t 8)⟩, ⟨none, none, .store 2 (.t 6) (.t 37)⟩, ⟨some 7, none, .mv (.k (.bool true))⟩] [6, 7])
 .ret)))))
def F82 : AFunc := ⟨3, [.cell 6 (some 2), .t 7], [], F82_c⟩
/-- laws.FnSpanned -/
def F83_t0 : AC :=
 (.reg false [⟨some 109, none, .mv (.t 12)⟩, ⟨some 110, none, .mv (.t 15)⟩, ⟨some 111, none, .bslice 1 [(.w 0#64)] 1 [(0, .t 110)]⟩, ⟨some 112, none, .append 1 (.t 109) (.t 111)⟩, ⟨some 12, none, .mv (.t 112)⟩] [1, 5, 6, 7, 8, 12, 73, 74, 75])
def F83_t1 : AC :=
 (.reg false [⟨some 113, none, .bin .add (.t 75) (.k (.int .i64 1))⟩, ⟨some 75, none, .mv (.t 113)⟩] [1, 5, 6, 7, 8, 12, 73, 74, 75])
def F83_b0 : AC := (.seq (.reg false [⟨some 76, none, .bin .lss (.t 75) (.t 74)⟩] [1, 5, 6, 7, 8, 12, 73, 74, 75, 76])
    (.seq (.cond (.t 76) .skip (.exit 0))
    (.seq (.block 1 (.seq (.reg false [⟨some 77, none, .mv (.t 75)⟩, ⟨some 78, none, .iaddr 2 (.t 73) (.t 75)⟩, ⟨some 79, none, .load (some 2) (.t 78)⟩, ⟨some 14, none, .alloc [.d (.w 0#64), .d (.w 0#64)]⟩, ⟨some 13, none, .mv (.t 77)⟩, ⟨none, none, .store 2 (.t 14) (.t 79)⟩] [1, 5, 6, 7, 8, 12, 13, 14, 73, 74, 75])
     (.seq (.reg false [⟨some 80, none, .faddr 0 (.t 14)⟩, ⟨some 81, none, .load none (.t 80)⟩, ⟨some 15, none, .mv (.t 81)⟩] [1, 5, 6, 7, 8, 12, 13, 14, 15, 73, 74, 75])
     (.seq (.seq (.reg false [⟨some 82, none, .faddr 1 (.t 14)⟩, ⟨some 83, none, .load none (.t 82)⟩, ⟨some 84, none, .faddr 0 (.t 14)⟩, ⟨some 85, none, .load none (.t 84)⟩, ⟨some 86, none, .bin .sub (.t 83) (.t 85)⟩, ⟨some 16, none, .mv (.t 86)⟩] [1, 5, 6, 7, 8, 12, 13, 15, 16, 73, 74, 75])
     (.seq (.reg false [⟨some 87, none, .mv (.t 16)⟩, ⟨some 88, none, .bin .lss (.t 87) (.k (.w 1000000#64))⟩] [1, 5, 6, 7, 8, 12, 13, 15, 16, 73, 74, 75, 88])
     (.cond (.t 88) (.reg false [⟨some 89, none, .mv (.t 15)⟩, ⟨some 90, none, .mv (.t 1)⟩, ⟨some 91, none, .lcall (.f 57) [.t 90]⟩, ⟨some 92, none, .mv (.t 13)⟩, ⟨some 93, none, .bin .add (.t 92) (.k (.int .i64 1))⟩, ⟨some 94, none, .bin .quo (.t 91) (.t 93)⟩, ⟨some 95, none, .conv .u64 (.t 94)⟩, ⟨some 96, none, .mv (.t 16)⟩, ⟨some 97, none, .bin .add (.t 96) (.k (.w 1#64))⟩, ⟨some 98, none, .bin .rem (.t 95) (.t 97)⟩, ⟨some 99, none, .bin .add (.t 89) (.t 98)⟩, ⟨some 15, none, .mv (.t 99)⟩] [1, 5, 6, 7, 8, 12, 15, 73, 74, 75]) (.reg false [⟨some 100, none, .mv (.t 15)⟩, ⟨some 101, none, .mv (.t 1)⟩, ⟨some 102, none, .lcall (.f 57) [.t 101]⟩, ⟨some 103, none, .mv (.t 13)⟩, ⟨some 104, none, .bin .add (.t 103) (.k (.int .i64 1))⟩, ⟨some 105, none, .bin .quo (.t 102) (.t 104)⟩, ⟨some 106, none, .conv .u64 (.t 105)⟩, ⟨some 107, none, .bin .rem (.t 106) (.k (.w 1000000#64))⟩, ⟨some 108, none, .bin .add (.t 100) (.t 107)⟩, ⟨some 15, none, .mv (.t 108)⟩] [1, 5, 6, 7, 8, 12, 15, 73, 74, 75]))))
     (.kp [(1, .keep), (5, .keep), (6, .keep), (7, .keep), (8, .keep), (12, .keep), (15, .keep), (73, .keep), (74, .keep), (75, .keep)] F83_t0)))))
    (.kp [(1, .keep), (5, .keep), (6, .keep), (7, .keep), (8, .keep), (12, .keep), (73, .keep), (74, .keep), (75, .keep)] F83_t1))))
def F83_l0 : AC := F83_b0
@[simp] theorem u83_0 (T : Nat → Option AFunc) (X : Orc) (F : AFunc) (m : Nat) (K : List AT) (e : Env) (st : St) : go T X F m (.code F83_l0 :: K) e st = go T X F m (.code F83_b0 :: K) e st := rfl
def F83_t2 : AC :=
 (.seq (.reg false [⟨some 115, none, .mv (.t 5)⟩, ⟨some 116, none, .mv (.t 7)⟩, ⟨some 117, none, .mv (.t 12)⟩, ⟨some 118, none, .lcall (.f 63) [.t 115, .t 116, .t 117]⟩, ⟨some 114, none, .mv (.t 118)⟩, ⟨some 119, none, .ext (.t 114) 0⟩, ⟨some 120, none, .ext (.t 114) 1⟩, ⟨some 17, none, .mv (.t 119)⟩, ⟨some 18, none, .mv (.t 120)⟩] [1, 5, 6, 8, 12, 17, 18])
 (.seq (.reg false [⟨some 122, none, .mv (.t 5)⟩, ⟨some 123, none, .mv (.t 6)⟩, ⟨some 124, none, .mv (.t 12)⟩, ⟨some 125, none, .lcall (.f 74) [.t 122, .t 123, .t 124]⟩, ⟨some 121, none, .mv (.t 125)⟩, ⟨some 126, none, .ext (.t 121) 0⟩, ⟨some 127, none, .ext (.t 121) 1⟩, ⟨some 19, none, .mv (.t 126)⟩, ⟨some 20, none, .mv (.t 127)⟩] [1, 8, 17, 18, 19, 20])
 (.seq (.reg false [⟨some 128, none, .mv (.t 18)⟩, ⟨some 129, none, .un .not (.t 128)⟩, ⟨some 130, none, .mv (.t 129)⟩, ⟨some 131, (some (130, false)), .mv (.t 17)⟩, ⟨some 132, (some (130, false)), .un .not (.t 131)⟩, ⟨some 133, none, .pick (.t 130) (.k (.bool true)) (.t 132)⟩, ⟨some 134, none, .mv (.t 133)⟩, ⟨some 135, (some (134, false)), .mv (.t 20)⟩, ⟨some 136, (some (134, false)), .un .not (.t 135)⟩, ⟨some 137, none, .pick (.t 134) (.k (.bool true)) (.t 136)⟩, ⟨some 138, none, .mv (.t 137)⟩, ⟨some 139, (some (138, false)), .mv (.t 19)⟩, ⟨some 140, (some (138, false)), .faddr 0 (.t 8)⟩, ⟨some 141, (some (138, false)), .load none (.t 140)⟩, ⟨some 142, (some (138, false)), .bin .lss (.t 139) (.t 141)⟩, ⟨some 143, none, .pick (.t 138) (.k (.bool true)) (.t 142)⟩, ⟨some 144, none, .mv (.t 143)⟩, ⟨some 145, (some (144, false)), .mv (.t 19)⟩, ⟨some 146, (some (144, false)), .faddr 1 (.t 8)⟩, ⟨some 147, (some (144, false)), .load none (.t 146)⟩, ⟨some 148, (some (144, false)), .bin .gtr (.t 145) (.t 147)⟩, ⟨some 149, none, .pick (.t 144) (.k (.bool true)) (.t 148)⟩] [1, 149])
 (.cond (.t 149) (.seq (.reg false [⟨some 4, none, .mv (.k (.bool false))⟩] [4])
  .ret) .skip))))
def F83_t3 : AC :=
 (.seq (.reg false [⟨some 151, none, .mv (.t 1)⟩, ⟨some 152, none, .lcall (.f 76) [.t 151]⟩, ⟨some 150, none, .mv (.t 152)⟩, ⟨some 153, none, .ext (.t 150) 0⟩, ⟨some 154, none, .ext (.t 150) 1⟩, ⟨some 155, none, .ext (.t 150) 2⟩, ⟨some 22, none, .alloc [.d (.w 0#64), .d (.w 0#64)]⟩, ⟨some 23, none, .alloc [.d (.w 0#64), .d (.w 0#64)]⟩, ⟨some 21, none, .mv (.t 153)⟩, ⟨none, none, .store 2 (.t 22) (.t 154)⟩, ⟨none, none, .store 2 (.t 23) (.t 155)⟩] [21, 22, 23])
 (.seq (.reg false [⟨some 157, none, .mv (.t 21)⟩, ⟨some 158, none, .load (some 2) (.t 22)⟩, ⟨some 159, none, .load (some 2) (.t 23)⟩, ⟨some 160, none, .pcall (.f 78) [.t 157, .t 158, .t 159]⟩, ⟨some 156, none, .mv (.t 160)⟩, ⟨some 161, none, .ext (.t 156) 0⟩, ⟨some 162, none, .ext (.t 156) 1⟩, ⟨some 24, none, .alloc [.d (.w 0#64), .d (.w 0#64)]⟩, ⟨none, none, .store 2 (.t 24) (.t 161)⟩, ⟨some 25, none, .mv (.t 162)⟩] [21, 22, 23, 24, 25])
 (.seq (.reg false [⟨some 164, none, .mv (.t 21)⟩, ⟨some 165, none, .load (some 2) (.t 22)⟩, ⟨some 166, none, .load (some 2) (.t 23)⟩, ⟨some 167, none, .pcall (.f 80) [.t 164, .t 165, .t 166]⟩, ⟨some 163, none, .mv (.t 167)⟩, ⟨some 168, none, .ext (.t 163) 0⟩, ⟨some 169, none, .ext (.t 163) 1⟩, ⟨some 26, none, .alloc [.d (.w 0#64), .d (.w 0#64)]⟩, ⟨none, none, .store 2 (.t 26) (.t 168)⟩, ⟨some 27, none, .mv (.t 169)⟩] [21, 22, 23, 24, 25, 26, 27])
 (.seq (.reg false [⟨some 171, none, .mv (.t 21)⟩, ⟨some 172, none, .load (some 2) (.t 22)⟩, ⟨some 173, none, .load (some 2) (.t 23)⟩, ⟨some 174, none, .pcall (.f 81) [.t 171, .t 172, .t 173]⟩, ⟨some 170, none, .mv (.t 174)⟩, ⟨some 175, none, .ext (.t 170) 0⟩, ⟨some 176, none, .ext (.t 170) 1⟩, ⟨some 28, none, .alloc [.d (.w 0#64), .d (.w 0#64)]⟩, ⟨none, none, .store 2 (.t 28) (.t 175)⟩, ⟨some 29, none, .mv (.t 176)⟩] [21, 22, 23, 24, 25, 26, 27, 28, 29])
 (.seq (.reg false [⟨some 178, none, .mv (.t 21)⟩, ⟨some 179, none, .load (some 2) (.t 22)⟩, ⟨some 180, none, .load (some 2) (.t 23)⟩, ⟨some 181, none, .pcall (.f 82) [.t 178, .t 179, .t 180]⟩, ⟨some 177, none, .mv (.t 181)⟩, ⟨some 182, none, .ext (.t 177) 0⟩, ⟨some 183, none, .ext (.t 177) 1⟩, ⟨some 30, none, .alloc [.d (.w 0#64), .d (.w 0#64)]⟩, ⟨none, none, .store 2 (.t 30) (.t 182)⟩, ⟨some 31, none, .mv (.t 183)⟩] [22, 23, 24, 25, 26, 27, 28, 29, 30, 31])
 (.seq (.seq (.reg false [⟨some 184, none, .mv (.t 25)⟩, ⟨some 185, none, .mv (.t 27)⟩, ⟨some 186, none, .eqb true (.t 184) (.t 185)⟩, ⟨some 187, none, .mv (.t 186)⟩, ⟨some 188, (some (187, false)), .load (some 2) (.t 24)⟩, ⟨some 189, (some (187, false)), .load (some 2) (.t 26)⟩, ⟨some 190, (some (187, false)), .eqs [0, 0] true (.t 188) (.t 189)⟩, ⟨some 191, none, .pick (.t 187) (.k (.bool true)) (.t 190)⟩, ⟨some 192, none, .mv (.t 191)⟩, ⟨some 193, (some (192, false)), .mv (.t 29)⟩, ⟨some 194, (some (192, false)), .mv (.t 31)⟩, ⟨some 195, (some (192, false)), .eqb true (.t 193) (.t 194)⟩, ⟨some 196, none, .pick (.t 192) (.k (.bool true)) (.t 195)⟩, ⟨some 197, none, .mv (.t 196)⟩, ⟨some 198, (some (197, false)), .load (some 2) (.t 28)⟩, ⟨some 199, (some (197, false)), .load (some 2) (.t 30)⟩, ⟨some 200, (some (197, false)), .eqs [0, 0] true (.t 198) (.t 199)⟩, ⟨some 201, none, .pick (.t 197) (.k (.bool true)) (.t 200)⟩] [22, 23, 24, 25, 28, 29, 201])
 (.cond (.t 201) (.seq (.reg false [⟨some 4, none, .mv (.k (.bool false))⟩] [4])
  .ret) .skip))
 (.seq (.reg false [⟨some 202, none, .mv (.t 29)⟩, ⟨some 203, none, .un .not (.t 202)⟩, ⟨some 204, none, .mv (.t 203)⟩, ⟨some 205, (some (204, false)), .mv (.t 25)⟩, ⟨some 206, (some (204, false)), .mv (.t 205)⟩, ⟨some 207, (some (206, true)), .faddr 0 (.t 28)⟩, ⟨some 208, (some (206, true)), .load none (.t 207)⟩, ⟨some 209, (some (206, true)), .faddr 0 (.t 22)⟩, ⟨some 210, (some (206, true)), .load none (.t 209)⟩, ⟨some 211, (some (206, true)), .bin .geq (.t 208) (.t 210)⟩, ⟨some 212, (some (204, false)), .pick (.t 206) (.t 211) (.k (.bool false))⟩, ⟨some 213, (some (204, false)), .mv (.t 212)⟩, ⟨some 214, (some (213, true)), .faddr 0 (.t 28)⟩, ⟨some 215, (some (213, true)), .load none (.t 214)⟩, ⟨some 216, (some (213, true)), .faddr 0 (.t 23)⟩, ⟨some 217, (some (213, true)), .load none (.t 216)⟩, ⟨some 218, (some (213, true)), .bin .geq (.t 215) (.t 217)⟩, ⟨some 219, (some (204, false)), .pick (.t 213) (.t 218) (.k (.bool false))⟩, ⟨some 220, (some (204, false)), .mv (.t 219)⟩, ⟨some 221, (some (220, true)), .faddr 1 (.t 28)⟩, ⟨some 222, (some (220, true)), .load none (.t 221)⟩, ⟨some 223, (some (220, true)), .faddr 1 (.t 22)⟩, ⟨some 224, (some (220, true)), .load none (.t 223)⟩, ⟨some 225, (some (220, true)), .bin .leq (.t 222) (.t 224)⟩, ⟨some 226, (some (204, false)), .pick (.t 220) (.t 225) (.k (.bool false))⟩, ⟨some 227, (some (204, false)), .mv (.t 226)⟩, ⟨some 228, (some (227, true)), .faddr 1 (.t 28)⟩, ⟨some 229, (some (227, true)), .load none (.t 228)⟩, ⟨some 230, (some (227, true)), .faddr 1 (.t 23)⟩, ⟨some 231, (some (227, true)), .load none (.t 230)⟩, ⟨some 232, (some (227, true)), .bin .leq (.t 229) (.t 231)⟩, ⟨some 233, (some (204, false)), .pick (.t 227) (.t 232) (.k (.bool false))⟩, ⟨some 234, (some (204, false)), .mv (.t 233)⟩, ⟨some 235, (some (234, true)), .faddr 0 (.t 24)⟩, ⟨some 236, (some (234, true)), .load none (.t 235)⟩, ⟨some 237, (some (234, true)), .faddr 0 (.t 28)⟩, ⟨some 238, (some (234, true)), .load none (.t 237)⟩, ⟨some 239, (some (234, true)), .bin .leq (.t 236) (.t 238)⟩, ⟨some 240, (some (204, false)), .pick (.t 234) (.t 239) (.k (.bool false))⟩, ⟨some 241, (some (204, false)), .mv (.t 240)⟩, ⟨some 242, (some (241, true)), .faddr 1 (.t 24)⟩, ⟨some 243, (some (241, true)), .load none (.t 242)⟩, ⟨some 244, (some (241, true)), .faddr 1 (.t 28)⟩, ⟨some 245, (some (241, true)), .load none (.t 244)⟩, ⟨some 246, (some (241, true)), .bin .geq (.t 243) (.t 245)⟩, ⟨some 247, (some (204, false)), .pick (.t 241) (.t 246) (.k (.bool false))⟩, ⟨some 248, none, .pick (.t 204) (.k (.bool true)) (.t 247)⟩, ⟨some 4, none, .mv (.t 248)⟩] [4])
 .ret)))))))
def F83_c : AC :=
 (.seq (.reg false [⟨some 4, none, .mv (.k (.bool false))⟩] [0, 1])
 (.seq (.seq (.reg false [⟨some 32, none, .mv (.t 0)⟩, ⟨some 33, none, .mv (.t 1)⟩, ⟨some 34, none, .lcall (.f 1) [.t 32, .t 33]⟩] [0, 1, 34])
 (.cond (.t 34) (.seq (.reg false [⟨some 4, none, .mv (.k (.bool true))⟩] [4])
  .ret) .skip))
 (.seq (.reg false [⟨some 36, none, .mv (.t 0)⟩, ⟨some 37, none, .call false [] (.f 14) [.t 36]⟩, ⟨some 35, none, .mv (.t 37)⟩, ⟨some 38, none, .ext (.t 35) 0⟩, ⟨some 39, none, .ext (.t 35) 1⟩, ⟨some 40, none, .ext (.t 35) 2⟩, ⟨some 5, none, .mv (.t 38)⟩, ⟨some 6, none, .mv (.t 39)⟩, ⟨some 7, none, .mv (.t 40)⟩] [1, 5, 6, 7])
 (.seq (.reg false [⟨some 42, none, .mv (.t 5)⟩, ⟨some 43, none, .mv (.t 6)⟩, ⟨some 44, none, .mv (.t 7)⟩, ⟨some 45, none, .lcall (.f 38) [.t 42, .t 43, .t 44]⟩, ⟨some 41, none, .mv (.t 45)⟩, ⟨some 46, none, .ext (.t 41) 0⟩, ⟨some 47, none, .ext (.t 41) 1⟩, ⟨some 8, none, .alloc [.d (.w 0#64), .d (.w 0#64)]⟩, ⟨none, none, .store 2 (.t 8) (.t 46)⟩, ⟨some 9, none, .mv (.t 47)⟩] [1, 5, 6, 7, 8, 9])
 (.seq (.reg false [⟨some 49, none, .mv (.t 5)⟩, ⟨some 50, none, .mv (.t 6)⟩, ⟨some 51, none, .mv (.t 7)⟩, ⟨some 52, none, .lcall (.f 56) [.t 49, .t 50, .t 51]⟩, ⟨some 48, none, .mv (.t 52)⟩, ⟨some 53, none, .ext (.t 48) 0⟩, ⟨some 54, none, .ext (.t 48) 1⟩, ⟨some 10, none, .alloc [.d (.w 0#64), .d (.w 0#64)]⟩, ⟨none, none, .store 2 (.t 10) (.t 53)⟩, ⟨some 11, none, .mv (.t 54)⟩] [1, 5, 6, 7, 8, 9, 10, 11])
 (.seq (.seq (.reg false [⟨some 55, none, .mv (.t 9)⟩, ⟨some 56, none, .mv (.t 11)⟩, ⟨some 57, none, .eqb true (.t 55) (.t 56)⟩, ⟨some 58, none, .mv (.t 57)⟩, ⟨some 59, (some (58, false)), .load (some 2) (.t 8)⟩, ⟨some 60, (some (58, false)), .load (some 2) (.t 10)⟩, ⟨some 61, (some (58, false)), .eqs [0, 0] true (.t 59) (.t 60)⟩, ⟨some 62, none, .pick (.t 58) (.k (.bool true)) (.t 61)⟩, ⟨some 63, none, .mv (.t 62)⟩, ⟨some 64, (some (63, false)), .mv (.t 9)⟩, ⟨some 65, (some (63, false)), .mv (.t 64)⟩, ⟨some 66, (some (65, true)), .mv (.t 5)⟩, ⟨some 67, (some (65, true)), .load (some 2) (.t 8)⟩, ⟨some 68, (some (65, true)), .pcall (.f 21) [.t 66, .t 67]⟩, ⟨some 69, (some (65, true)), .un .not (.t 68)⟩, ⟨some 70, (some (63, false)), .pick (.t 65) (.t 69) (.k (.bool false))⟩, ⟨some 71, none, .pick (.t 63) (.k (.bool true)) (.t 70)⟩] [1, 5, 6, 7, 8, 9, 71])
 (.cond (.t 71) (.seq (.reg false [⟨some 4, none, .mv (.k (.bool false))⟩] [4])
  .ret) .skip))
 (.seq (.seq (.reg false [⟨some 72, none, .mv (.t 9)⟩] [1, 5, 6, 7, 8, 72])
 (.cond (.t 72) (.seq (.reg false [⟨some 12, none, .mv (.k .nil)⟩] [1, 5, 6, 7, 8, 12])
  (.seq (.seq (.reg false [⟨some 73, none, .mv (.t 7)⟩, ⟨some 74, none, .len (.t 73)⟩, ⟨some 75, none, .mv (.k (.int .i64 0))⟩] [1, 5, 6, 7, 8, 12, 73, 74, 75])
  (.block 0 (.loop [(1, .keep), (5, .keep), (6, .keep), (7, .keep), (8, .keep), (12, .ow 1), (73, .keep), (74, .keep), (75, .keep)] F83_l0)))
  (.kp [(1, .keep), (5, .keep), (6, .keep), (7, .keep), (8, .keep), (12, .keep)] F83_t2))) .skip))
 (.kp [(1, .keep)] F83_t3))))))))
def F83 : AFunc := ⟨2, [.t 4], [], F83_c⟩
end Go.Proofs.Ytghhjbbildemiaa.AM

namespace Go.Proofs.Ytghhjbbildemiaa.AM
open Go
def tbl : List (Nat × AFunc) := [(1, F1), (2, F2), (3, F3), (4, F4), (5, F5), (6, F6), (7, F7), (8, F8), (9, F9), (10, F10), (11, F11), (12, F12), (13, F13), (14, F14), (15, F15), (16, F16), (17, F17), (18, F18), (19, F19), (20, F20), (21, F21), (22, F22), (23, F23), (24, F24), (25, F25), (26, F26), (27, F27), (28, F28), (29, F29), (30, F30), (32, F32), (33, F33), (34, F34), (35, F35), (36, F36), (37, F37), (38, F38), (39, F39), (40, F40), (41, F41), (42, F42), (43, F43), (44, F44), (45, F45), (46, F46), (47, F47), (48, F48), (49, F49), (50, F50), (51, F51), (52, F52), (53, F53), (54, F54), (55, F55), (56, F56), (57, F57), (58, F58), (59, F59), (60, F60), (61, F61), (62, F62), (63, F63), (64, F64), (65, F65), (66, F66), (67, F67), (68, F68), (69, F69), (70, F70), (71, F71), (72, F72), (73, F73), (74, F74), (75, F75), (76, F76), (77, F77), (78, F78), (79, F79), (80, F80), (81, F81), (82, F82), (83, F83)]
def T (f : Nat) : Option AFunc := tbl.lookup f
theorem T1 : T 1 = some F1 := rfl
theorem T2 : T 2 = some F2 := rfl
theorem T3 : T 3 = some F3 := rfl
theorem T4 : T 4 = some F4 := rfl
theorem T5 : T 5 = some F5 := rfl
theorem T6 : T 6 = some F6 := rfl
theorem T7 : T 7 = some F7 := rfl
theorem T8 : T 8 = some F8 := rfl
theorem T9 : T 9 = some F9 := rfl
theorem T10 : T 10 = some F10 := rfl
theorem T11 : T 11 = some F11 := rfl
theorem T12 : T 12 = some F12 := rfl
theorem T13 : T 13 = some F13 := rfl
theorem T14 : T 14 = some F14 := rfl
theorem T15 : T 15 = some F15 := rfl
theorem T16 : T 16 = some F16 := rfl
theorem T17 : T 17 = some F17 := rfl
theorem T18 : T 18 = some F18 := rfl
theorem T19 : T 19 = some F19 := rfl
theorem T20 : T 20 = some F20 := rfl
theorem T21 : T 21 = some F21 := rfl
theorem T22 : T 22 = some F22 := rfl
theorem T23 : T 23 = some F23 := rfl
theorem T24 : T 24 = some F24 := rfl
theorem T25 : T 25 = some F25 := rfl
theorem T26 : T 26 = some F26 := rfl
theorem T27 : T 27 = some F27 := rfl
theorem T28 : T 28 = some F28 := rfl
theorem T29 : T 29 = some F29 := rfl
theorem T30 : T 30 = some F30 := rfl
theorem T32 : T 32 = some F32 := rfl
theorem T33 : T 33 = some F33 := rfl
theorem T34 : T 34 = some F34 := rfl
theorem T35 : T 35 = some F35 := rfl
theorem T36 : T 36 = some F36 := rfl
theorem T37 : T 37 = some F37 := rfl
theorem T38 : T 38 = some F38 := rfl
theorem T39 : T 39 = some F39 := rfl
theorem T40 : T 40 = some F40 := rfl
theorem T41 : T 41 = some F41 := rfl
theorem T42 : T 42 = some F42 := rfl
theorem T43 : T 43 = some F43 := rfl
theorem T44 : T 44 = some F44 := rfl
theorem T45 : T 45 = some F45 := rfl
theorem T46 : T 46 = some F46 := rfl
theorem T47 : T 47 = some F47 := rfl
theorem T48 : T 48 = some F48 := rfl
theorem T49 : T 49 = some F49 := rfl
theorem T50 : T 50 = some F50 := rfl
theorem T51 : T 51 = some F51 := rfl
theorem T52 : T 52 = some F52 := rfl
theorem T53 : T 53 = some F53 := rfl
theorem T54 : T 54 = some F54 := rfl
theorem T55 : T 55 = some F55 := rfl
theorem T56 : T 56 = some F56 := rfl
theorem T57 : T 57 = some F57 := rfl
theorem T58 : T 58 = some F58 := rfl
theorem T59 : T 59 = some F59 := rfl
theorem T60 : T 60 = some F60 := rfl
theorem T61 : T 61 = some F61 := rfl
theorem T62 : T 62 = some F62 := rfl
theorem T63 : T 63 = some F63 := rfl
theorem T64 : T 64 = some F64 := rfl
theorem T65 : T 65 = some F65 := rfl
theorem T66 : T 66 = some F66 := rfl
theorem T67 : T 67 = some F67 := rfl
theorem T68 : T 68 = some F68 := rfl
theorem T69 : T 69 = some F69 := rfl
theorem T70 : T 70 = some F70 := rfl
theorem T71 : T 71 = some F71 := rfl
theorem T72 : T 72 = some F72 := rfl
theorem T73 : T 73 = some F73 := rfl
theorem T74 : T 74 = some F74 := rfl
theorem T75 : T 75 = some F75 := rfl
theorem T76 : T 76 = some F76 := rfl
theorem T77 : T 77 = some F77 := rfl
theorem T78 : T 78 = some F78 := rfl
theorem T79 : T 79 = some F79 := rfl
theorem T80 : T 80 = some F80 := rfl
theorem T81 : T 81 = some F81 := rfl
theorem T82 : T 82 = some F82 := rfl
theorem T83 : T 83 = some F83 := rfl
end Go.Proofs.Ytghhjbbildemiaa.AM

namespace Go.Proofs.Ytghhjbbildemiaa.AM
open Go

def asBit : D → Option Nat
  | .int .u64 n => if n = 0 then some 0 else if n = 1 then some 1 else none
  | _ => none
def asW : D → Option Nat
  | .int .u64 n => if 0 ≤ n ∧ n < 18446744073709551616 then some n.toNat else none
  | _ => none
/-- The functions that have no body: math/bits.Add64. -/
def X : Orc := fun f vs st =>
  if f = 31 then
    match vs with
    | [.d a, .d b, .d c] => match asW a, asW b, asBit c with
      | some x, some y, some z => some (.tup [.d (.int .u64 ((x + y + z) % 18446744073709551616 : Nat)), .d (.int .u64 ((x + y + z) / 18446744073709551616 : Nat))], st)
      | _, _, _ => none
    | _ => none
  else none
theorem X_none {f : Nat} (h : f ≠ 31) (vs : List AV) (st : St) : X f vs st = none := if_neg h

end Go.Proofs.Ytghhjbbildemiaa.AM

namespace Go.Proofs.Ytghhjbbildemiaa.AM
open Go
theorem e1 (v0 v1 : AV) (st : St) : acall T X 1 [v0, v1] st = go T X F1 st.length [.code F1_c] [(0, v0), (1, v1)] st := acall_go T1 (X_none (by decide) _ _) rfl
theorem e2 (v0 : AV) (st : St) : acall T X 2 [v0] st = go T X F2 st.length [.code F2_c] [(0, v0)] st := acall_go T2 (X_none (by decide) _ _) rfl
theorem e3 (v0 v1 : AV) (st : St) : acall T X 3 [v0, v1] st = go T X F3 st.length [.code F3_c] [(0, v0), (1, v1)] st := acall_go T3 (X_none (by decide) _ _) rfl
theorem e4 (v0 v1 : AV) (st : St) : acall T X 4 [v0, v1] st = go T X F4 st.length [.code F4_c] [(0, v0), (1, v1)] st := acall_go T4 (X_none (by decide) _ _) rfl
theorem e5 (v0 v1 : AV) (st : St) : acall T X 5 [v0, v1] st = go T X F5 st.length [.code F5_c] [(0, v0), (1, v1)] st := acall_go T5 (X_none (by decide) _ _) rfl
theorem e6 (v0 v1 : AV) (st : St) : acall T X 6 [v0, v1] st = go T X F6 st.length [.code F6_c] [(0, v0), (1, v1)] st := acall_go T6 (X_none (by decide) _ _) rfl
theorem e7 (v0 v1 v2 v3 : AV) (st : St) : acall T X 7 [v0, v1, v2, v3] st = go T X F7 st.length [.code F7_c] [(0, v0), (1, v1), (2, v2), (3, v3)] st := acall_go T7 (X_none (by decide) _ _) rfl
theorem e8 (v0 v1 v2 v3 : AV) (st : St) : acall T X 8 [v0, v1, v2, v3] st = go T X F8 st.length [.code F8_c] [(0, v0), (1, v1), (2, v2), (3, v3)] st := acall_go T8 (X_none (by decide) _ _) rfl
theorem e9 (v0 : AV) (st : St) : acall T X 9 [v0] st = go T X F9 st.length [.code F9_c] [(0, v0)] st := acall_go T9 (X_none (by decide) _ _) rfl
theorem e10 (v0 : AV) (st : St) : acall T X 10 [v0] st = go T X F10 st.length [.code F10_c] [(0, v0)] st := acall_go T10 (X_none (by decide) _ _) rfl
theorem e11 (v0 v1 : AV) (st : St) : acall T X 11 [v0, v1] st = go T X F11 st.length [.code F11_c] [(0, v0), (1, v1)] st := acall_go T11 (X_none (by decide) _ _) rfl
theorem e12 (v0 v1 : AV) (st : St) : acall T X 12 [v0, v1] st = go T X F12 st.length [.code F12_c] [(0, v0), (1, v1)] st := acall_go T12 (X_none (by decide) _ _) rfl
theorem e13 (v0 v1 v2 : AV) (st : St) : acall T X 13 [v0, v1, v2] st = go T X F13 st.length [.code F13_c] [(0, v0), (1, v1), (2, v2)] st := acall_go T13 (X_none (by decide) _ _) rfl
theorem e14 (v0 : AV) (st : St) : acall T X 14 [v0] st = go T X F14 st.length [.code F14_c] [(0, v0)] st := acall_go T14 (X_none (by decide) _ _) rfl
theorem e15 (v0 : AV) (st : St) : acall T X 15 [v0] st = go T X F15 st.length [.code F15_c] [(0, v0)] st := acall_go T15 (X_none (by decide) _ _) rfl
theorem e16 (v0 v1 : AV) (st : St) : acall T X 16 [v0, v1] st = go T X F16 st.length [.code F16_c] [(0, v0), (1, v1)] st := acall_go T16 (X_none (by decide) _ _) rfl
theorem e17 (v0 v1 : AV) (st : St) : acall T X 17 [v0, v1] st = go T X F17 st.length [.code F17_c] [(0, v0), (1, v1)] st := acall_go T17 (X_none (by decide) _ _) rfl
theorem e18 (v0 : AV) (st : St) : acall T X 18 [v0] st = go T X F18 st.length [.code F18_c] [(0, v0)] st := acall_go T18 (X_none (by decide) _ _) rfl
theorem e19 (v0 : AV) (st : St) : acall T X 19 [v0] st = go T X F19 st.length [.code F19_c] [(0, v0)] st := acall_go T19 (X_none (by decide) _ _) rfl
theorem e20 (v0 v1 : AV) (st : St) : acall T X 20 [v0, v1] st = go T X F20 st.length [.code F20_c] [(0, v0), (1, v1)] st := acall_go T20 (X_none (by decide) _ _) rfl
theorem e21 (v0 v1 : AV) (st : St) : acall T X 21 [v0, v1] st = go T X F21 st.length [.code F21_c] [(0, v0), (1, v1)] st := acall_go T21 (X_none (by decide) _ _) rfl
theorem e22 (v0 v1 : AV) (st : St) : acall T X 22 [v0, v1] st = go T X F22 st.length [.code F22_c] [(0, v0), (1, v1)] st := acall_go T22 (X_none (by decide) _ _) rfl
theorem e23 (v0 v1 : AV) (st : St) : acall T X 23 [v0, v1] st = go T X F23 st.length [.code F23_c] [(0, v0), (1, v1)] st := acall_go T23 (X_none (by decide) _ _) rfl
theorem e24 (v0 : AV) (st : St) : acall T X 24 [v0] st = go T X F24 st.length [.code F24_c] [(0, v0)] st := acall_go T24 (X_none (by decide) _ _) rfl
theorem e25 (v0 v1 v2 : AV) (st : St) : acall T X 25 [v0, v1, v2] st = go T X F25 st.length [.code F25_c] [(0, v0), (1, v1), (2, v2)] st := acall_go T25 (X_none (by decide) _ _) rfl
theorem e26 (v0 v1 : AV) (st : St) : acall T X 26 [v0, v1] st = go T X F26 st.length [.code F26_c] [(0, v0), (1, v1)] st := acall_go T26 (X_none (by decide) _ _) rfl
theorem e27 (v0 v1 : AV) (st : St) : acall T X 27 [v0, v1] st = go T X F27 st.length [.code F27_c] [(0, v0), (1, v1)] st := acall_go T27 (X_none (by decide) _ _) rfl
theorem e28 (v0 v1 : AV) (st : St) : acall T X 28 [v0, v1] st = go T X F28 st.length [.code F28_c] [(0, v0), (1, v1)] st := acall_go T28 (X_none (by decide) _ _) rfl
theorem e29 (v0 v1 v2 : AV) (st : St) : acall T X 29 [v0, v1, v2] st = go T X F29 st.length [.code F29_c] [(0, v0), (1, v1), (2, v2)] st := acall_go T29 (X_none (by decide) _ _) rfl
theorem e30 (v0 v1 : AV) (st : St) : acall T X 30 [v0, v1] st = go T X F30 st.length [.code F30_c] [(0, v0), (1, v1)] st := acall_go T30 (X_none (by decide) _ _) rfl
theorem e32 (v0 v1 v2 : AV) (st : St) : acall T X 32 [v0, v1, v2] st = go T X F32 st.length [.code F32_c] [(0, v0), (1, v1), (2, v2)] st := acall_go T32 (X_none (by decide) _ _) rfl
theorem e33 (v0 v1 : AV) (st : St) : acall T X 33 [v0, v1] st = go T X F33 st.length [.code F33_c] [(0, v0), (1, v1)] st := acall_go T33 (X_none (by decide) _ _) rfl
theorem e34 (v0 v1 v2 : AV) (st : St) : acall T X 34 [v0, v1, v2] st = go T X F34 st.length [.code F34_c] [(0, v0), (1, v1), (2, v2)] st := acall_go T34 (X_none (by decide) _ _) rfl
theorem e35 (v0 v1 : AV) (st : St) : acall T X 35 [v0, v1] st = go T X F35 st.length [.code F35_c] [(0, v0), (1, v1)] st := acall_go T35 (X_none (by decide) _ _) rfl
theorem e36 (v0 v1 v2 v3 : AV) (st : St) : acall T X 36 [v0, v1, v2, v3] st = go T X F36 st.length [.code F36_c] [(0, v0), (1, v1), (2, v2), (3, v3)] st := acall_go T36 (X_none (by decide) _ _) rfl
theorem e37 (v0 v1 v2 : AV) (st : St) : acall T X 37 [v0, v1, v2] st = go T X F37 st.length [.code F37_c] [(0, v0), (1, v1), (2, v2)] st := acall_go T37 (X_none (by decide) _ _) rfl
theorem e38 (v0 v1 v2 : AV) (st : St) : acall T X 38 [v0, v1, v2] st = go T X F38 st.length [.code F38_c] [(0, v0), (1, v1), (2, v2)] st := acall_go T38 (X_none (by decide) _ _) rfl
theorem e39 (v0 v1 v2 : AV) (st : St) : acall T X 39 [v0, v1, v2] st = go T X F39 st.length [.code F39_c] [(0, v0), (1, v1), (2, v2)] st := acall_go T39 (X_none (by decide) _ _) rfl
theorem e40 (v0 : AV) (st : St) : acall T X 40 [v0] st = go T X F40 st.length [.code F40_c] [(0, v0)] st := acall_go T40 (X_none (by decide) _ _) rfl
theorem e41 (v0 : AV) (st : St) : acall T X 41 [v0] st = go T X F41 st.length [.code F41_c] [(0, v0)] st := acall_go T41 (X_none (by decide) _ _) rfl
theorem e42 (v0 v1 : AV) (st : St) : acall T X 42 [v0, v1] st = go T X F42 st.length [.code F42_c] [(0, v0), (1, v1)] st := acall_go T42 (X_none (by decide) _ _) rfl
theorem e43 (v0 v1 v2 : AV) (st : St) : acall T X 43 [v0, v1, v2] st = go T X F43 st.length [.code F43_c] [(0, v0), (1, v1), (2, v2)] st := acall_go T43 (X_none (by decide) _ _) rfl
theorem e44 (v0 v1 v2 : AV) (st : St) : acall T X 44 [v0, v1, v2] st = go T X F44 st.length [.code F44_c] [(0, v0), (1, v1), (2, v2)] st := acall_go T44 (X_none (by decide) _ _) rfl
theorem e45 (v0 v1 v2 : AV) (st : St) : acall T X 45 [v0, v1, v2] st = go T X F45 st.length [.code F45_c] [(0, v0), (1, v1), (2, v2)] st := acall_go T45 (X_none (by decide) _ _) rfl
theorem e46 (v0 v1 v2 : AV) (st : St) : acall T X 46 [v0, v1, v2] st = go T X F46 st.length [.code F46_c] [(0, v0), (1, v1), (2, v2)] st := acall_go T46 (X_none (by decide) _ _) rfl
theorem e47 (v0 v1 : AV) (st : St) : acall T X 47 [v0, v1] st = go T X F47 st.length [.code F47_c] [(0, v0), (1, v1)] st := acall_go T47 (X_none (by decide) _ _) rfl
theorem e48 (v0 v1 : AV) (st : St) : acall T X 48 [v0, v1] st = go T X F48 st.length [.code F48_c] [(0, v0), (1, v1)] st := acall_go T48 (X_none (by decide) _ _) rfl
theorem e49 (v0 v1 : AV) (st : St) : acall T X 49 [v0, v1] st = go T X F49 st.length [.code F49_c] [(0, v0), (1, v1)] st := acall_go T49 (X_none (by decide) _ _) rfl
theorem e50 (v0 v1 : AV) (st : St) : acall T X 50 [v0, v1] st = go T X F50 st.length [.code F50_c] [(0, v0), (1, v1)] st := acall_go T50 (X_none (by decide) _ _) rfl
theorem e51 (v0 v1 : AV) (st : St) : acall T X 51 [v0, v1] st = go T X F51 st.length [.code F51_c] [(0, v0), (1, v1)] st := acall_go T51 (X_none (by decide) _ _) rfl
theorem e52 (v0 v1 v2 : AV) (st : St) : acall T X 52 [v0, v1, v2] st = go T X F52 st.length [.code F52_c] [(0, v0), (1, v1), (2, v2)] st := acall_go T52 (X_none (by decide) _ _) rfl
theorem e53 (v0 v1 v2 v3 : AV) (st : St) : acall T X 53 [v0, v1, v2, v3] st = go T X F53 st.length [.code F53_c] [(0, v0), (1, v1), (2, v2), (3, v3)] st := acall_go T53 (X_none (by decide) _ _) rfl
theorem e54 (v0 v1 v2 : AV) (st : St) : acall T X 54 [v0, v1, v2] st = go T X F54 st.length [.code F54_c] [(0, v0), (1, v1), (2, v2)] st := acall_go T54 (X_none (by decide) _ _) rfl
theorem e55 (v0 v1 v2 v3 : AV) (st : St) : acall T X 55 [v0, v1, v2, v3] st = go T X F55 st.length [.code F55_c] [(0, v0), (1, v1), (2, v2), (3, v3)] st := acall_go T55 (X_none (by decide) _ _) rfl
theorem e56 (v0 v1 v2 : AV) (st : St) : acall T X 56 [v0, v1, v2] st = go T X F56 st.length [.code F56_c] [(0, v0), (1, v1), (2, v2)] st := acall_go T56 (X_none (by decide) _ _) rfl
theorem e57 (v0 : AV) (st : St) : acall T X 57 [v0] st = go T X F57 st.length [.code F57_c] [(0, v0)] st := acall_go T57 (X_none (by decide) _ _) rfl
theorem e58 (v0 v1 : AV) (st : St) : acall T X 58 [v0, v1] st = go T X F58 st.length [.code F58_c] [(0, v0), (1, v1)] st := acall_go T58 (X_none (by decide) _ _) rfl
theorem e59 (v0 v1 : AV) (st : St) : acall T X 59 [v0, v1] st = go T X F59 st.length [.code F59_c] [(0, v0), (1, v1)] st := acall_go T59 (X_none (by decide) _ _) rfl
theorem e60 (v0 v1 : AV) (st : St) : acall T X 60 [v0, v1] st = go T X F60 st.length [.code F60_c] [(0, v0), (1, v1)] st := acall_go T60 (X_none (by decide) _ _) rfl
theorem e61 (v0 v1 v2 : AV) (st : St) : acall T X 61 [v0, v1, v2] st = go T X F61 st.length [.code F61_c] [(0, v0), (1, v1), (2, v2)] st := acall_go T61 (X_none (by decide) _ _) rfl
theorem e62 (v0 v1 : AV) (st : St) : acall T X 62 [v0, v1] st = go T X F62 st.length [.code F62_c] [(0, v0), (1, v1)] st := acall_go T62 (X_none (by decide) _ _) rfl
theorem e63 (v0 v1 v2 : AV) (st : St) : acall T X 63 [v0, v1, v2] st = go T X F63 st.length [.code F63_c] [(0, v0), (1, v1), (2, v2)] st := acall_go T63 (X_none (by decide) _ _) rfl
theorem e64 (v0 v1 v2 : AV) (st : St) : acall T X 64 [v0, v1, v2] st = go T X F64 st.length [.code F64_c] [(0, v0), (1, v1), (2, v2)] st := acall_go T64 (X_none (by decide) _ _) rfl
theorem e65 (v0 : AV) (st : St) : acall T X 65 [v0] st = go T X F65 st.length [.code F65_c] [(0, v0)] st := acall_go T65 (X_none (by decide) _ _) rfl
theorem e66 (v0 : AV) (st : St) : acall T X 66 [v0] st = go T X F66 st.length [.code F66_c] [(0, v0)] st := acall_go T66 (X_none (by decide) _ _) rfl
theorem e67 (v0 v1 v2 : AV) (st : St) : acall T X 67 [v0, v1, v2] st = go T X F67 st.length [.code F67_c] [(0, v0), (1, v1), (2, v2)] st := acall_go T67 (X_none (by decide) _ _) rfl
theorem e68 (v0 v1 v2 : AV) (st : St) : acall T X 68 [v0, v1, v2] st = go T X F68 st.length [.code F68_c] [(0, v0), (1, v1), (2, v2)] st := acall_go T68 (X_none (by decide) _ _) rfl
theorem e69 (v0 v1 v2 v3 : AV) (st : St) : acall T X 69 [v0, v1, v2, v3] st = go T X F69 st.length [.code F69_c] [(0, v0), (1, v1), (2, v2), (3, v3)] st := acall_go T69 (X_none (by decide) _ _) rfl
theorem e70 (v0 : AV) (st : St) : acall T X 70 [v0] st = go T X F70 st.length [.code F70_c] [(0, v0)] st := acall_go T70 (X_none (by decide) _ _) rfl
theorem e71 (v0 v1 : AV) (st : St) : acall T X 71 [v0, v1] st = go T X F71 st.length [.code F71_c] [(0, v0), (1, v1)] st := acall_go T71 (X_none (by decide) _ _) rfl
theorem e72 (v0 v1 v2 v3 : AV) (st : St) : acall T X 72 [v0, v1, v2, v3] st = go T X F72 st.length [.code F72_c] [(0, v0), (1, v1), (2, v2), (3, v3)] st := acall_go T72 (X_none (by decide) _ _) rfl
theorem e73 (v0 v1 v2 : AV) (st : St) : acall T X 73 [v0, v1, v2] st = go T X F73 st.length [.code F73_c] [(0, v0), (1, v1), (2, v2)] st := acall_go T73 (X_none (by decide) _ _) rfl
theorem e74 (v0 v1 v2 : AV) (st : St) : acall T X 74 [v0, v1, v2] st = go T X F74 st.length [.code F74_c] [(0, v0), (1, v1), (2, v2)] st := acall_go T74 (X_none (by decide) _ _) rfl
theorem e75 (v0 : AV) (st : St) : acall T X 75 [v0] st = go T X F75 st.length [.code F75_c] [(0, v0)] st := acall_go T75 (X_none (by decide) _ _) rfl
theorem e76 (v0 : AV) (st : St) : acall T X 76 [v0] st = go T X F76 st.length [.code F76_c] [(0, v0)] st := acall_go T76 (X_none (by decide) _ _) rfl
theorem e77 (v0 v1 : AV) (st : St) : acall T X 77 [v0, v1] st = go T X F77 st.length [.code F77_c] [(0, v0), (1, v1)] st := acall_go T77 (X_none (by decide) _ _) rfl
theorem e78 (v0 v1 v2 : AV) (st : St) : acall T X 78 [v0, v1, v2] st = go T X F78 st.length [.code F78_c] [(0, v0), (1, v1), (2, v2)] st := acall_go T78 (X_none (by decide) _ _) rfl
theorem e79 (v0 v1 : AV) (st : St) : acall T X 79 [v0, v1] st = go T X F79 st.length [.code F79_c] [(0, v0), (1, v1)] st := acall_go T79 (X_none (by decide) _ _) rfl
theorem e80 (v0 v1 v2 : AV) (st : St) : acall T X 80 [v0, v1, v2] st = go T X F80 st.length [.code F80_c] [(0, v0), (1, v1), (2, v2)] st := acall_go T80 (X_none (by decide) _ _) rfl
theorem e81 (v0 v1 v2 : AV) (st : St) : acall T X 81 [v0, v1, v2] st = go T X F81 st.length [.code F81_c] [(0, v0), (1, v1), (2, v2)] st := acall_go T81 (X_none (by decide) _ _) rfl
theorem e82 (v0 v1 v2 : AV) (st : St) : acall T X 82 [v0, v1, v2] st = go T X F82 st.length [.code F82_c] [(0, v0), (1, v1), (2, v2)] st := acall_go T82 (X_none (by decide) _ _) rfl
theorem e83 (v0 v1 : AV) (st : St) : acall T X 83 [v0, v1] st = go T X F83 st.length [.code F83_c] [(0, v0), (1, v1)] st := acall_go T83 (X_none (by decide) _ _) rfl
end Go.Proofs.Ytghhjbbildemiaa.AM

namespace Go.Proofs.Ytghhjbbildemiaa.AM
open Go

/-- The bits of a below k. -/
def cutK (a : BitVec 64) : Nat → BitVec 64
  | 0 => 0#64
  | k + 1 => cutK a k ||| (a &&& sll 1#64 k)

theorem c6_loop (a : BitVec 64) (wide : Nat) (hw : wide < 1000) (K : List AT) : ∀ (n k : Nat) (z : Int) (A : BitVec 64), k + n = wide → z = k → A = cutK a k →
    go T X F6 0 (.inLoop [(0, .keep), (1, .keep), (5, .keep), (6, .keep)] F6_l0 :: .inBlock 0 :: K) [(0, .d (.int .i64 wide)), (1, .d (.w a)), (5, .d (.w A)), (6, .d (.int .i64 z))] [] =
    go T X F6 0 K [(0, .d (.int .i64 wide)), (1, .d (.w a)), (5, .d (.w (cutK a wide))), (6, .d (.int .i64 wide)), (9, .d (.bool false))] [] := by
  intro n
  induction n with
  | zero =>
    intro k z A hk hz hA
    obtain rfl : k = wide := by omega
    subst hz hA
    rw [go_inLoop]
    simp [F6_b0]
  | succ n ih =>
    intro k z A hk hz hA
    subst hz hA
    rw [go_inLoop]
    have : k < wide := by omega
    have h3 : (ofI k).toNat = k := by rw [ofI, BitVec.toNat_ofInt]; omega
    simp [F6_b0, *]
    rw [ih (k + 1) _ _ (by omega) _ (by simp [cutK])]
    rw [wr_id] <;> omega

theorem c6 (a : BitVec 64) (wide : Nat) (hw : wide < 1000) : acall T X 6 [.d (.int .i64 wide), .d (.w a)] [] = some (.d (.w (cutK a wide)), []) := by
  simp [e6, F6_c]
  rw [c6_loop a wide hw _ wide 0 _ _ (by omega) (by rfl) (by rfl)]
  simp [F6_t0]
  simp [fin, F6]

end Go.Proofs.Ytghhjbbildemiaa.AM

namespace Go.Proofs.Ytghhjbbildemiaa.AM
open Go

/-- A cursor: its bytes, its place, its seed. -/
def cur (l : List (BitVec 8)) (a : Nat) (s : BitVec 64) : AO := .box [.d (.sl (l.map fun b => [.u b])), .d (.int .i64 a), .d (.w s)]

section
variable (l : List (BitVec 8)) (a : Nat) (s : BitVec 64) (st : St)
@[simp] theorem renO_cur (g : Nat → Option Nat) : renO g (cur l a s) = cur l a s := by simp [cur]
@[simp] theorem hOfO_cur : hOfO (cur l a s) = [] := by simp [cur]

theorem and255 (x : BitVec 64) : 0 ≤ toI (x &&& 255#64) ∧ toI (x &&& 255#64) < 256 := by
  have h : (x &&& 255#64).toNat ≤ 255 := by
    rw [BitVec.toNat_and]; exact Nat.and_le_right
  rw [toI, BitVec.toInt_eq_toNat_cond]
  omega

theorem c2 (ha : a < 4611686018427387904) : Ev (acall T X 2 [.ptr 0 0 0 0] [cur l a s]) fun r => ∃ v s', r = (.d (.int .i64 v), [cur l (a + 1) s']) ∧ 0 ≤ v ∧ v < 256 := by
  have hw : wr ((a : Int) + 1) = (a : Int) + 1 := by rw [wr_id] <;> omega
  by_cases h1 : a < l.length
  · have hb := (l[a]).isLt
    have h2 : (a : Int) + 1 ≤ l.length := by omega
    simp [e2, F2_c, F2_t0, cur, h1, hw, h2]
    simp [fin, F2]
    omega
  · have h2 : ¬ (a : Int) + 1 ≤ l.length := by omega
    simp [e2, F2_c, F2_t0, cur, h1, hw, h2]
    simp [fin, F2]
    exact and255 _

/-- What a draw gives: the cursor goes on by k places at most. -/
def DrQ (l : List (BitVec 8)) (a k : Nat) (R : AV → List AO → Prop) (r : AV × St) : Prop := ∃ v a' s' os, r = (v, cur l a' s' :: os) ∧ a' ≤ a + k ∧ R v os
def Dr (f : Nat) (as : List AV) (k : Nat) (R : AV → List AO → Prop) : Prop := ∀ (l : List (BitVec 8)) (a : Nat) (s : BitVec 64), a + k < 4611686018427387904 →
  Ev (acall T X f (.ptr 0 0 0 0 :: as) [cur l a s]) (DrQ l a k R)

theorem DrQ.mk {l : List (BitVec 8)} {a a' k : Nat} {s' : BitVec 64} {R : AV → List AO → Prop} {v : AV} {os : List AO} (h : a' ≤ a + k) (hr : R v os) : DrQ l a k R (v, cur l a' s' :: os) := ⟨_, _, _, _, rfl, h, hr⟩

/-- A number between bounds; a truth value; a word; data. -/
def NumIn (lo hi : Int) (v : AV) (os : List AO) : Prop := ∃ n : Int, v = .d (.int .i64 n) ∧ lo ≤ n ∧ n < hi ∧ os = []
def IsBool (v : AV) (os : List AO) : Prop := ∃ b : Bool, v = .d (.bool b) ∧ os = []
def IsW (v : AV) (os : List AO) : Prop := ∃ x : BitVec 64, v = .d (.w x) ∧ os = []
def OneOf (ns : List Int) (v : AV) (os : List AO) : Prop := ∃ n ∈ ns, v = .d (.int .i64 n) ∧ os = []

/-- Arguments that are data, no nil slice among them. -/
def plain1 : AV → Bool
  | .d .nil => false
  | .d _ => true
  | _ => false
def plainL : List AV → Bool
  | [] => true
  | v :: vs => plain1 v && plainL vs

theorem plain_brw {st : St} : ∀ {vs : List AV}, plainL vs = true → brwA st [] vs = some (vs, []) ∧ hOfL vs = [] ∧ ∀ g, renL g vs = vs
  | [], _ => ⟨rfl, rfl, fun _ => rfl⟩
  | v :: vs, h => by
    simp only [plainL, Bool.and_eq_true] at h
    obtain ⟨g1, g2, g3⟩ := plain_brw (st := st) h.2
    cases v with
    | d x =>
      have hb : brw st (.d x) = some (.d x, []) := by
        cases x with
        | nil => simp [plain1] at h
        | _ => rfl
      refine ⟨?_, by simp [hOfL, hOf, g2], fun g => by simp [renL, ren, g3]⟩
      simp only [brwA, List.headD_nil, Bool.false_eq_true, if_false, List.tail_nil, hb, g1]
      rfl
    | _ => simp [plain1] at h

theorem mcall_cur {C : Orc} {f : Nat} {as : List AV} {a' : Nat} {s' : BitVec 64} {v : AV} {os : List AO} (h : C f (.ptr 0 0 0 0 :: as) [cur l a s] = some (v, cur l a' s' :: os)) (hp : plainL as = true) {k : Nat} (hk : st[k]? = some (cur l a s)) :
    mcall C false [] f (.ptr k 0 0 0 :: as) st = some (ren (back [k] st.length) v, st.set k (cur l a' s') ++ renS (back [k] st.length) os) := by
  obtain ⟨g1, g2, g3⟩ := plain_brw (st := st) hp
  simp [mcall, g1, g2, g3, h, hk]

theorem mcall_cur1 {C : Orc} {f sz k n : Nat} {es : List (List D)} {a' : Nat} {s' : BitVec 64} {v : AV} {os : List AO} (h : C f [.ptr 0 0 0 0, .d (.sl es)] [cur l a s] = some (v, cur l a' s' :: os)) {c : Nat} (hc : st[c]? = some (cur l a s)) (hk : st[k]? = some (.arr sz es true)) (hn : n = es.length) :
    mcall C false [] f [.ptr c 0 0 0, .hs k sz 0 n] st = some (ren (back [c] st.length) v, (st.set k (.arr sz es false)).set c (cur l a' s') ++ renS (back [c] st.length) os) := by
  subst hn
  have hkc : k ≠ c := by
    rintro rfl
    rw [hc] at hk; simp [cur] at hk
  have h1 : (st.set k (.arr sz es false))[c]? = some (cur l a s) := by rw [List.getElem?_set_ne hkc]; exact hc
  simp [mcall, hk, h, h1]

section
variable {f : Nat} {as : List AV} {k : Nat} {R : AV → List AO → Prop} {lo hi : Int} {ns : List Int} (l : List (BitVec 8)) (a : Nat) (s : BitVec 64) (hp : plainL as = true) (hb : a + k < 4611686018427387904)
include hb
theorem Dr.get (h : Dr f as k R) : ∃ v a' s' os, acall T X f (.ptr 0 0 0 0 :: as) [cur l a s] = some (v, cur l a' s' :: os) ∧ a' ≤ a + k ∧ R v os := by
  obtain ⟨r, h1, v, a', s', os, rfl, h2, h3⟩ := h l a s hb
  exact ⟨v, a', s', os, h1, h2, h3⟩
include hp
theorem Dr.num (h : Dr f as k (NumIn lo hi)) : ∃ n a' s', (∀ (st : St) (k : Nat), st[k]? = some (cur l a s) → mcall (acall T X) false [] f (.ptr k 0 0 0 :: as) st = some (.d (.int .i64 n), st.set k (cur l a' s'))) ∧ a' ≤ a + k ∧ lo ≤ n ∧ n < hi := by
  obtain ⟨v, a', s', os, h1, h2, n, rfl, h3, h4, rfl⟩ := h.get l a s hb
  exact ⟨n, a', s', fun st k hk => by rw [mcall_cur l a s st h1 hp hk]; simp, h2, h3, h4⟩
theorem Dr.bool (h : Dr f as k IsBool) : ∃ b a' s', (∀ (st : St) (k : Nat), st[k]? = some (cur l a s) → mcall (acall T X) false [] f (.ptr k 0 0 0 :: as) st = some (.d (.bool b), st.set k (cur l a' s'))) ∧ a' ≤ a + k := by
  obtain ⟨v, a', s', os, h1, h2, n, rfl, rfl⟩ := h.get l a s hb
  exact ⟨n, a', s', fun st k hk => by rw [mcall_cur l a s st h1 hp hk]; simp, h2⟩
theorem Dr.word (h : Dr f as k IsW) : ∃ x a' s', (∀ (st : St) (k : Nat), st[k]? = some (cur l a s) → mcall (acall T X) false [] f (.ptr k 0 0 0 :: as) st = some (.d (.w x), st.set k (cur l a' s'))) ∧ a' ≤ a + k := by
  obtain ⟨v, a', s', os, h1, h2, n, rfl, rfl⟩ := h.get l a s hb
  exact ⟨n, a', s', fun st k hk => by rw [mcall_cur l a s st h1 hp hk]; simp, h2⟩
theorem Dr.one (h : Dr f as k (OneOf ns)) : ∃ n a' s', (∀ (st : St) (k : Nat), st[k]? = some (cur l a s) → mcall (acall T X) false [] f (.ptr k 0 0 0 :: as) st = some (.d (.int .i64 n), st.set k (cur l a' s'))) ∧ a' ≤ a + k ∧ n ∈ ns := by
  obtain ⟨v, a', s', os, h1, h2, n, h3, rfl, rfl⟩ := h.get l a s hb
  exact ⟨n, a', s', fun st k hk => by rw [mcall_cur l a s st h1 hp hk]; simp, h2, h3⟩
end

theorem dr_next : Dr 2 [] 1 (NumIn 0 256) := by
  intro l a s ha
  refine (c2 l a s (by omega)).mono ?_
  rintro r ⟨v, s', rfl, h1, h2⟩
  exact DrQ.mk (by omega) ⟨v, rfl, h1, h2, rfl⟩

theorem dr_pick (n : Int) (hn : n < 4611686018427387904) : Dr 3 [.d (.int .i64 n)] 2 (NumIn 0 (max 1 n)) := by
  intro l a s ha
  by_cases h1 : n ≤ 1
  · simp [e3, F3_c, F3_t0, h1]
    simp [fin, F3]
    exact DrQ.mk (by omega) ⟨0, rfl, by omega, by omega, rfl⟩
  · have hn0 : n ≠ 0 := by omega
    have hm0 : ∀ z : Int, 0 ≤ z → 0 ≤ z.tmod n ∧ z.tmod n < max 1 n := fun z hz => by
      rw [Int.tmod_eq_emod_of_nonneg hz]
      have := Int.emod_nonneg z hn0
      have := Int.emod_lt_of_pos z (show 0 < n by omega)
      omega
    obtain ⟨x, a1, s1, g1, g2, g3, g4⟩ := dr_next.num l a s (by rfl) (by omega)
    by_cases h2 : 200 < n
    · obtain ⟨y, a2, s2, g5, g6, g7, g8⟩ := dr_next.num l a1 s1 (by rfl) (by omega)
      have hm : wr (x * 256) = x * 256 := by rw [wr_id] <;> omega
      have hw : wr (x * 256 + y) = x * 256 + y := by rw [wr_id] <;> omega
      simp [e3, F3_c, F3_t0, h1, g1, h2, g5, hm, hw, hn0]
      simp [fin, F3]
      exact DrQ.mk (by omega) ⟨_, rfl, (hm0 _ (by omega)).1, (hm0 _ (by omega)).2, rfl⟩
    · simp [e3, F3_c, F3_t0, h1, g1, h2, hn0]
      simp [fin, F3]
      exact DrQ.mk (by omega) ⟨_, rfl, (hm0 _ (by omega)).1, (hm0 _ (by omega)).2, rfl⟩

theorem dr_one (n : Int) (hn : n < 4611686018427387904) : Dr 5 [.d (.int .i64 n)] 2 IsBool := by
  intro l a s ha
  obtain ⟨x, a1, s1, g1, g2, g3, g4⟩ := (dr_pick n hn).num l a s (by rfl) (by omega)
  simp [e5, F5_c, g1]
  simp [fin, F5]
  exact DrQ.mk (by omega) ⟨_, rfl, rfl⟩

/-- A list of numbers as a slice. -/
def ints (ns : List Int) : List (List D) := ns.map fun n => [.int .i64 n]

theorem among (ns : List Int) (h0 : ns ≠ []) (hl : ns.length < 1000) (ha : a + 2 < 4611686018427387904) :
    ∃ n a' s', acall T X 4 [.ptr 0 0 0 0, .d (.sl (ints ns))] [cur l a s] = some (.d (.int .i64 n), [cur l a' s']) ∧ a' ≤ a + 2 ∧ n ∈ ns := by
  have hp : 0 < ns.length := List.length_pos_iff.2 h0
  obtain ⟨x, a1, s1, g1, g2, g3, g4⟩ := (dr_pick ns.length (by omega)).num l a s (by rfl) (by omega)
  have hx : x.toNat < ns.length := by omega
  refine ⟨ns[x.toNat], a1, s1, ?_, g2, List.getElem_mem hx⟩
  simp [e4, F4_c, ints, g1, g3, hx]
  simp [fin, F4]

/-- A choice among numbers that lie in a slice of one's own. -/
theorem dr_among (ns : List Int) (h0 : ns ≠ []) (hl : ns.length < 1000) (ha : a + 2 < 4611686018427387904) :
    ∃ n a' s', (∀ k m st c, st[c]? = some (cur l a s) → st[k]? = some (.arr 1 (ints ns) true) → m = ns.length → mcall (acall T X) false [] 4 [.ptr c 0 0 0, .hs k 1 0 m] st = some (.d (.int .i64 n), (st.set k (.arr 1 (ints ns) false)).set c (cur l a' s'))) ∧ a' ≤ a + 2 ∧ n ∈ ns := by
  obtain ⟨n, a', s', h, h1, h2⟩ := among l a s ns h0 hl ha
  refine ⟨n, a', s', fun k m st c hc hk hm => ?_, h1, h2⟩
  rw [mcall_cur1 l a s st h hc hk (by simp [hm, ints])]
  simp

theorem dr_long : Dr 10 [] 8 IsW := by
  intro l a s ha
  have loop : ∀ (n k : Nat) (z : Int) (x : BitVec 64) (a' : Nat) (s' : BitVec 64), k + n = 8 → z = k → a' ≤ a + k →
      Ev (go T X F10 1 [.inLoop [(0, .keep), (3, .keep), (4, .keep)] F10_l0, .inBlock 0, .code (.kp [(3, .keep)] F10_t0)] [(0, .ptr 0 0 0 0), (3, .d (.w x)), (4, .d (.int .i64 z))] [cur l a' s']) (DrQ l a 8 IsW) := by
    intro n
    induction n with
    | zero =>
      intro k z x a' s' hk hz ha'
      subst hz
      obtain rfl : k = 8 := by omega
      rw [go_inLoop]
      simp [F10_b0, F10_t0]
      simp [fin, F10]
      exact DrQ.mk (by omega) ⟨_, rfl, rfl⟩
    | succ n ih =>
      intro k z x a' s' hk hz ha'
      subst hz
      obtain ⟨y, a1, s1, g1, g2, g3, g4⟩ := dr_next.num l a' s' (by rfl) (by omega)
      have h1 : (k : Int) < 8 := by omega
      rw [go_inLoop]
      simp [F10_b0, g1, h1]
      apply ih (k + 1)
      · omega
      · rw [wr_id] <;> omega
      · omega
  simp [e10, F10_c]
  apply loop 8 0
  · omega
  · rfl
  · omega

theorem dr_word (wide : Nat) (hw : wide < 1000) : Dr 11 [.d (.int .i64 wide)] 20 IsW := by
  intro l a s ha
  obtain ⟨x0, a0, s0, h0, h01, h02, h03⟩ := (dr_pick 5 (by omega)).num l a s (by rfl) (by omega)
  obtain ⟨x1, a1, s1, h1, h11, h12, h13⟩ := (dr_pick 5 (by omega)).num l a0 s0 (by rfl) (by omega)
  have tail : ∀ (x : BitVec 64) (a' : Nat) (s' : BitVec 64), a' ≤ a + 12 → Ev (go T X F11 1 [.code F11_t0] [(0, .ptr 0 0 0 0), (1, .d (.int .i64 wide)), (5, .d (.w x))] [cur l a' s']) (DrQ l a 20 IsW) := by
    intro x a' s' h
    obtain ⟨b, a2, s2, h2, h21⟩ := (dr_one 30 (by omega)).bool l a' s' (by rfl) (by omega)
    cases b
    · simp [F11_t0, h2, c6 _ _ hw]
      simp [fin, F11]
      exact DrQ.mk (by omega) ⟨_, rfl, rfl⟩
    · simp [F11_t0, h2]
      simp [fin, F11]
      exact DrQ.mk (by omega) ⟨_, rfl, rfl⟩
  by_cases q0 : x1 = 0
  · obtain ⟨y, a2, s2, h2, h21⟩ := dr_long.word l a1 s1 (by rfl) (by omega)
    simp [e11, F11_c, h0, h1, q0, h2]
    apply tail; omega
  by_cases q1 : x1 = 1
  · obtain ⟨y, a2, s2, h2, h21, _⟩ := (dr_pick 3 (by omega)).num l a1 s1 (by rfl) (by omega)
    simp [e11, F11_c, h0, h1, q1, h2]
    apply tail; omega
  by_cases q2 : x1 = 2
  · obtain ⟨y, a2, s2, h2, h21, _⟩ := (dr_pick 64 (by omega)).num l a1 s1 (by rfl) (by omega)
    simp [e11, F11_c, h0, h1, q2, h2]
    apply tail; omega
  simp [e11, F11_c, h0, h1, q0, q1, q2]
  apply tail; omega

theorem dr_width : Dr 75 [] 2 (OneOf [1, 2, 3, 4, 8, 16, 32, 63, 64, 0, 65]) := by
  intro l a s ha
  obtain ⟨n, a1, s1, h, h1, h2⟩ := dr_among l a s [1, 2, 3, 4, 8, 16, 32, 63, 64, 0, 65] (by simp) (by simp) (by omega)
  simp only [ints, List.map] at h
  simp [e75, F75_c, h]
  simp [fin, F75]
  exact DrQ.mk (by omega) ⟨_, h2, rfl, rfl⟩

/-- An interval. -/
def span (lo hi : BitVec 64) : AV := .agg [.d (.w lo), .d (.w hi)]
def IsSpan (v : AV) (os : List AO) : Prop := ∃ lo hi : BitVec 64, v = span lo hi ∧ os = []

theorem dr_span (wide : Nat) (hw : wide < 1000) : Dr 12 [.d (.int .i64 wide)] 44 IsSpan := by
  intro l a s ha
  obtain ⟨x, a0, s0, h0, h01⟩ := (dr_word wide hw).word l a s (by rfl) (by omega)
  obtain ⟨y, a1, s1, h1, h11⟩ := (dr_word wide hw).word l a0 s0 (by rfl) (by omega)
  obtain ⟨b, a2, s2, h2, h21⟩ := (dr_one 3 (by omega)).bool l a1 s1 (by rfl) (by omega)
  have tail : ∀ y : BitVec 64, Ev (go T X F12 1 [.code F12_t1] [(0, .ptr 0 0 0 0), (4, .ptr 1 0 0 0), (5, .ptr 2 0 0 0)] [cur l a2 s2, .box [.d (.w 0#64), .d (.w 0#64)], .box [.d (.w x), .d (.w y)]]) (DrQ l a 44 IsSpan) := by
    intro y
    by_cases hxy : y < x
    · obtain ⟨c, a3, s3, h3, h31⟩ := (dr_one 30 (by omega)).bool l a2 s2 (by rfl) (by omega)
      cases c
      · simp [F12_t1, h3, hxy]
        simp [F12_t0]
        simp [fin, F12]
        exact DrQ.mk (by omega) ⟨_, _, rfl, rfl⟩
      · simp [F12_t1, h3, hxy]
        simp [F12_t0]
        simp [fin, F12]
        exact DrQ.mk (by omega) ⟨_, _, rfl, rfl⟩
    · simp [F12_t1, hxy]
      simp [F12_t0]
      simp [fin, F12]
      exact DrQ.mk (by omega) ⟨_, _, rfl, rfl⟩
  cases b
  · simp [e12, F12_c, h0, h1, h2]
    exact tail _
  · simp [e12, F12_c, h0, h1, h2]
    exact tail _
end
end Go.Proofs.Ytghhjbbildemiaa.AM

namespace Go.Proofs.Ytghhjbbildemiaa.AM
open Go

/-- A node of a term: its cells. -/
def node (op : Int) (n : BitVec 64) : List D := [.int .i64 op, .w n]
def nodeV (x : Int × BitVec 64) : List D := node x.1 x.2

/-- An own slice of at most k nodes. -/
def OwnT (k : Nat) (v : AV) (os : List AO) : Prop := ∃ t : List (Int × BitVec 64), v = .hs 1 2 0 t.length ∧ os = [.arr 2 (t.map nodeV) true] ∧ 1 ≤ t.length ∧ t.length ≤ k

theorem Dr.ownT {f : Nat} {as : List AV} {k m : Nat} (h : Dr f as k (OwnT m)) (l : List (BitVec 8)) (a : Nat) (s : BitVec 64) (hp : plainL as = true) (hb : a + k < 4611686018427387904) :
    ∃ (t : List (Int × BitVec 64)) (a' : Nat) (s' : BitVec 64), (∀ (st : St) (k : Nat), st[k]? = some (cur l a s) → mcall (acall T X) false [] f (.ptr k 0 0 0 :: as) st = some (.hs st.length 2 0 t.length, st.set k (cur l a' s') ++ [.arr 2 (t.map nodeV) true])) ∧ a' ≤ a + k ∧ 1 ≤ t.length ∧ t.length ≤ m := by
  obtain ⟨v, a', s', os, h1, h2, t, rfl, rfl, h3, h4⟩ := h.get l a s hb
  exact ⟨t, a', s', fun st k hk => by rw [mcall_cur l a s st h1 hp hk]; simp, h2, h3, h4⟩

def numK : Nat → Nat
  | 0 => 10
  | d + 1 => 20 + 2 * numK d
def numL : Nat → Nat
  | 0 => 1
  | d + 1 => 1 + 2 * numL d

set_option maxHeartbeats 1000000 in
theorem dr_number (wide : Nat) (hw : wide < 1000) (vars : Int) (hv : vars < 1000) : ∀ d : Nat, d ≤ 4 → Dr 7 [.d (.int .i64 wide), .d (.int .i64 vars), .d (.int .i64 d)] (numK d) (OwnT (numL d)) := by
  intro d
  induction d with
  | zero =>
    intro _ l a s ha
    simp only [numK] at ha
    obtain ⟨b, a1, s1, h1, h11⟩ := (dr_one 2 (by omega)).bool l a s (by rfl) (by omega)
    cases b
    · obtain ⟨x, a2, s2, h2, h21, _⟩ := (dr_pick vars (by omega)).num l a1 s1 (by rfl) (by omega)
      simp [e7, F7_c, h1, h2]
      simp [fin, F7]
      exact DrQ.mk (by simp only [numK]; omega) ⟨[(2, ofI x)], rfl, rfl, by simp, by simp [numL]⟩
    · obtain ⟨x, a2, s2, h2, h21, _⟩ := (dr_pick 9 (by omega)).num l a1 s1 (by rfl) (by omega)
      simp [e7, F7_c, h1, h2, c6 _ _ hw]
      simp [fin, F7]
      exact DrQ.mk (by simp only [numK]; omega) ⟨[(1, cutK (ofI x) wide)], rfl, rfl, by simp, by simp [numL]⟩
  | succ d ih =>
    intro hd l a s ha
    have ih := ih (by omega)
    have hL1 : numL d ≤ 31 := by
      have : d = 0 ∨ d = 1 ∨ d = 2 ∨ d = 3 := by omega
      rcases this with rfl | rfl | rfl | rfl <;> simp [numL]
    simp only [numK] at ha
    have hd1 : ¬ ((d : Int) + 1 = 0) := by omega
    have hd2 : wr (d : Int) = d := by rw [wr_id] <;> omega
    obtain ⟨b0, a0, s0, h0, h01⟩ := (dr_one 4 (by omega)).bool l a s (by rfl) (by omega)
    cases b0
    · obtain ⟨b1, a1, s1, h1, h11⟩ := (dr_one 7 (by omega)).bool l a0 s0 (by rfl) (by omega)
      obtain ⟨t, a2, s2, h2, h21, h22, h23⟩ := ih.ownT l a1 s1 (by rfl) (by omega)
      have g1 : t.length ≤ maxApp := by simp only [maxApp]; omega
      have g2 : t.length + 1 ≤ maxApp := by simp only [maxApp]; omega
      cases b1
      · obtain ⟨u, a3, s3, h3, h31, h32, h33⟩ := ih.ownT l a2 s2 (by rfl) (by omega)
        obtain ⟨n, a4, s4, h4, h41, _⟩ := dr_among l a3 s3 [3, 3, 3, 4, 4, 5, 8, 9, 10] (by simp) (by simp) (by omega)
        obtain ⟨b5, a5, s5, h5, h51⟩ := (dr_one 6 (by omega)).bool l a4 s4 (by rfl) (by omega)
        simp only [ints, List.map] at h4
        have g3 : t.length + u.length ≤ maxApp := by simp only [maxApp]; omega
        have g4 : t.length + u.length + 1 ≤ maxApp := by simp only [maxApp]; omega
        have tail : ∀ (n : Int) (a' : Nat) (s' : BitVec 64), a' ≤ a + 20 + 2 * numK d → Ev (go T X F7 1 [.code F7_t0] [(9, .hs 1 2 0 (t.length + u.length)), (10, .d (.int .i64 n))] [cur l a' s', .arr 2 (t.map nodeV ++ u.map nodeV) true]) (DrQ l a (numK (d + 1)) (OwnT (numL (d + 1)))) := by
          intro n a' s' h
          simp [F7_t0, g4]
          simp [fin, F7]
          exact DrQ.mk (by simp only [numK]; omega) ⟨t ++ u ++ [(n, 0#64)], by simp [Nat.add_assoc], by simp [nodeV, node], by simp; omega, by simp [numL]; omega⟩
        cases b5
        · simp [e7, F7_c, h0, h1, h2, h3, h4, h5, hd1, hd2, g3]
          apply tail; omega
        · obtain ⟨n', a6, s6, h6, h61, _⟩ := dr_among l a5 s5 [6, 7, 11, 12] (by simp) (by simp) (by omega)
          simp only [ints, List.map] at h6
          simp [e7, F7_c, h0, h1, h2, h3, h4, h5, h6, hd1, hd2, g3]
          apply tail; omega
      · simp [e7, F7_c, h0, h1, h2, hd1, hd2, g2]
        simp [fin, F7]
        exact DrQ.mk (by simp only [numK]; omega) ⟨t ++ [(13, 0#64)], by simp, by simp [nodeV, node], by simp, by simp [numL]; omega⟩
    · obtain ⟨b, a1, s1, h1, h11⟩ := (dr_one 2 (by omega)).bool l a0 s0 (by rfl) (by omega)
      cases b
      · obtain ⟨x, a2, s2, h2, h21, _⟩ := (dr_pick vars (by omega)).num l a1 s1 (by rfl) (by omega)
        simp [e7, F7_c, h0, h1, h2, hd1]
        simp [fin, F7]
        exact DrQ.mk (by simp only [numK]; omega) ⟨[(2, ofI x)], rfl, rfl, by simp, by simp [numL]⟩
      · obtain ⟨x, a2, s2, h2, h21, _⟩ := (dr_pick 9 (by omega)).num l a1 s1 (by rfl) (by omega)
        simp [e7, F7_c, h0, h1, h2, c6 _ _ hw, hd1]
        simp [fin, F7]
        exact DrQ.mk (by simp only [numK]; omega) ⟨[(1, cutK (ofI x) wide)], rfl, rfl, by simp, by simp [numL]⟩

theorem OwnT.le {k m : Nat} (h : k ≤ m) {v : AV} {os : List AO} (hv : OwnT k v os) : OwnT m v os := by
  obtain ⟨t, h1, h2, h3, h4⟩ := hv; exact ⟨t, h1, h2, h3, by omega⟩
theorem Dr.weaken {f : Nat} {as : List AV} {k k' : Nat} {R R' : AV → List AO → Prop} (h : Dr f as k R) (hk : k ≤ k') (hR : ∀ v os, R v os → R' v os) : Dr f as k' R' := by
  intro l a s ha
  refine (h l a s (by omega)).mono ?_
  rintro r ⟨v, a', s', os, rfl, h1, h2⟩
  exact DrQ.mk (by omega) (hR _ _ h2)

def askK : Nat → Nat
  | 0 => 120
  | d + 1 => 120 + 2 * askK d
def askL : Nat → Nat
  | 0 => 7
  | d + 1 => 1 + 2 * askL d

theorem dr_number01 (wide : Nat) (hw : wide < 1000) (vars : Int) (hv : vars < 1000) (n : Int) (h0 : 0 ≤ n) (h1 : n < 2) : Dr 7 [.d (.int .i64 wide), .d (.int .i64 vars), .d (.int .i64 n)] 40 (OwnT 3) := by
  obtain ⟨k, rfl⟩ : ∃ k : Nat, n = k := ⟨n.toNat, by omega⟩
  have hk : k = 0 ∨ k = 1 := by omega
  rcases hk with rfl | rfl
  · exact (dr_number wide hw vars hv 0 (by omega)).weaken (by simp [numK]) (fun _ _ => OwnT.le (by simp [numL]))
  · exact (dr_number wide hw vars hv 1 (by omega)).weaken (by simp [numK]) (fun _ _ => OwnT.le (by simp [numL]))

set_option maxHeartbeats 1000000 in
theorem dr_asked (wide : Nat) (hw : wide < 1000) (vars : Int) (hv : vars < 1000) : ∀ d : Nat, d ≤ 3 → Dr 8 [.d (.int .i64 wide), .d (.int .i64 vars), .d (.int .i64 d)] (askK d) (OwnT (askL d)) := by
  intro d
  induction d with
  | zero =>
    intro _ l a s ha
    simp only [askK] at ha
    obtain ⟨b, a0, s0, h0, h01⟩ := (dr_one 20 (by omega)).bool l a s (by rfl) (by omega)
    cases b
    · obtain ⟨t, a1, s1, h1, h11, h12, h13⟩ := (dr_number01 wide hw vars hv 1 (by omega) (by omega)).ownT l a0 s0 (by rfl) (by omega)
      obtain ⟨n, a2, s2, h2, h21, h22, h23⟩ := (dr_pick 2 (by omega)).num l a1 s1 (by rfl) (by omega)
      obtain ⟨u, a3, s3, h3, h31, h32, h33⟩ := (dr_number01 wide hw vars hv n h22 (by omega)).ownT l a2 s2 (by rfl) (by omega)
      obtain ⟨m, a4, s4, h4, h41, _⟩ := dr_among l a3 s3 [14, 15, 15, 16] (by simp) (by simp) (by omega)
      simp only [ints, List.map] at h4
      have g3 : t.length + u.length ≤ maxApp := by simp only [maxApp]; omega
      have g4 : t.length + u.length + 1 ≤ maxApp := by simp only [maxApp]; omega
      simp [e8, F8_c, h0, h1, h2, h3, h4, g3, g4]
      simp [fin, F8]
      exact DrQ.mk (by simp only [askK]; omega) ⟨t ++ u ++ [(m, 0#64)], by simp [Nat.add_assoc], by simp [nodeV, node], by simp; omega, by simp [askL]; omega⟩
    · obtain ⟨x, a2, s2, h2, h21, _⟩ := (dr_pick 2 (by omega)).num l a0 s0 (by rfl) (by omega)
      simp [e8, F8_c, h0, h2]
      simp [fin, F8]
      exact DrQ.mk (by simp only [askK]; omega) ⟨[(20, ofI x)], rfl, rfl, by simp, by simp [askL]⟩
  | succ d ih =>
    intro hd l a s ha
    have ih := ih (by omega)
    have hL1 : askL d ≤ 100 := by
      have : d = 0 ∨ d = 1 ∨ d = 2 := by omega
      rcases this with rfl | rfl | rfl <;> simp [askL]
    have hL2 : 7 ≤ askL (d + 1) := by
      have : d = 0 ∨ d = 1 ∨ d = 2 := by omega
      rcases this with rfl | rfl | rfl <;> simp [askL]
    simp only [askK] at ha
    have hd1 : (0 : Int) < (d : Int) + 1 := by omega
    have hd2 : wr (d : Int) = d := by rw [wr_id] <;> omega
    obtain ⟨b, a0, s0, h0, h01⟩ := (dr_one 20 (by omega)).bool l a s (by rfl) (by omega)
    cases b
    · obtain ⟨b1, a1, s1, h1, h11⟩ := (dr_one 4 (by omega)).bool l a0 s0 (by rfl) (by omega)
      cases b1
      · obtain ⟨b2, a2, s2, h2, h21⟩ := (dr_one 2 (by omega)).bool l a1 s1 (by rfl) (by omega)
        cases b2
        · obtain ⟨t, a3, s3, h3, h31, h32, h33⟩ := (dr_number01 wide hw vars hv 1 (by omega) (by omega)).ownT l a2 s2 (by rfl) (by omega)
          obtain ⟨n, a4, s4, h4, h41, h42, h43⟩ := (dr_pick 2 (by omega)).num l a3 s3 (by rfl) (by omega)
          obtain ⟨u, a5, s5, h5, h51, h52, h53⟩ := (dr_number01 wide hw vars hv n h42 (by omega)).ownT l a4 s4 (by rfl) (by omega)
          obtain ⟨m, a6, s6, h6, h61, _⟩ := dr_among l a5 s5 [14, 15, 15, 16] (by simp) (by simp) (by omega)
          simp only [ints, List.map] at h6
          have g3 : t.length + u.length ≤ maxApp := by simp only [maxApp]; omega
          have g4 : t.length + u.length + 1 ≤ maxApp := by simp only [maxApp]; omega
          simp [e8, F8_c, h0, h1, h2, h3, h4, h5, h6, g3, g4, hd1]
          simp [fin, F8]
          exact DrQ.mk (by simp only [askK]; omega) ⟨t ++ u ++ [(m, 0#64)], by simp [Nat.add_assoc], by simp [nodeV, node], by simp; omega, by simp; omega⟩
        · obtain ⟨t, a3, s3, h3, h31, h32, h33⟩ := ih.ownT l a2 s2 (by rfl) (by omega)
          obtain ⟨u, a5, s5, h5, h51, h52, h53⟩ := ih.ownT l a3 s3 (by rfl) (by omega)
          obtain ⟨m, a6, s6, h6, h61, _⟩ := dr_among l a5 s5 [17, 18] (by simp) (by simp) (by omega)
          simp only [ints, List.map] at h6
          have g3 : t.length + u.length ≤ maxApp := by simp only [maxApp]; omega
          have g4 : t.length + u.length + 1 ≤ maxApp := by simp only [maxApp]; omega
          simp [e8, F8_c, h0, h1, h2, h3, h5, h6, g3, g4, hd1, hd2]
          simp [fin, F8]
          exact DrQ.mk (by simp only [askK]; omega) ⟨t ++ u ++ [(m, 0#64)], by simp [Nat.add_assoc], by simp [nodeV, node], by simp; omega, by simp [askL]; omega⟩
      · obtain ⟨t, a3, s3, h3, h31, h32, h33⟩ := ih.ownT l a1 s1 (by rfl) (by omega)
        have g2 : t.length + 1 ≤ maxApp := by simp only [maxApp]; omega
        simp [e8, F8_c, h0, h1, h3, g2, hd1, hd2]
        simp [fin, F8]
        exact DrQ.mk (by simp only [askK]; omega) ⟨t ++ [(19, 0#64)], by simp, by simp [nodeV, node], by simp, by simp [askL]; omega⟩
    · obtain ⟨x, a2, s2, h2, h21, _⟩ := (dr_pick 2 (by omega)).num l a0 s0 (by rfl) (by omega)
      simp [e8, F8_c, h0, h2]
      simp [fin, F8]
      exact DrQ.mk (by simp only [askK]; omega) ⟨[(20, ofI x)], rfl, rfl, by simp, by simp; omega⟩
end Go.Proofs.Ytghhjbbildemiaa.AM

namespace Go.Proofs.Ytghhjbbildemiaa.AM
open Go

def tsl (t : List (Int × BitVec 64)) : D := .sl (t.map nodeV)
def IsTerm (v : AV) (os : List AO) : Prop := ∃ (wide : Nat) (vars : Int) (t : List (Int × BitVec 64)), v = .tup [.d (.int .i64 wide), .d (.int .i64 vars), .d (tsl t)] ∧ wide ≤ 64 ∧ 0 ≤ vars ∧ vars ≤ 5 ∧ t.length ≤ 31 ∧ os = []

set_option maxHeartbeats 1000000 in
theorem dr_term : Dr 9 [] 2000 IsTerm := by
  intro l a s ha
  obtain ⟨w0, a0, s0, h0, h01, h02⟩ := dr_among l a s [1, 2, 3, 4, 8, 64] (by simp) (by simp) (by omega)
  simp only [ints, List.map] at h0
  obtain ⟨wide, rfl⟩ : ∃ k : Nat, w0 = k := ⟨w0.toNat, by simp at h02; omega⟩
  have hw : wide ≤ 64 := by simp at h02; omega
  obtain ⟨v0, a1, s1, h1, h11, h12, h13⟩ := (dr_pick 3 (by omega)).num l a0 s0 (by rfl) (by omega)
  have hv0 : wr (1 + v0) = 1 + v0 := by rw [wr_id] <;> omega
  obtain ⟨t, a2, s2, h2, h21, h22, h23⟩ := (dr_asked wide (by omega) (1 + v0) (by omega) 2 (by omega)).ownT l a1 s1 (by rfl) (by simp only [askK]; omega)
  obtain ⟨b, a3, s3, h3, h31⟩ := (dr_one 3 (by omega)).bool l a2 s2 (by rfl) (by simp only [askK] at h21; omega)
  simp only [askK, askL] at h21 h23
  have last : ∀ (vars : Int) (t : List (Int × BitVec 64)) (n a' : Nat) (s' : BitVec 64), a' ≤ a + 2000 → 0 ≤ vars → vars ≤ 5 → t.length ≤ 31 → n ≤ t.length →
      Ev (go T X F9 1 [.code F9_t0] [(5, .d (.int .i64 wide)), (6, .d (.int .i64 vars)), (7, .hs 1 2 0 n)] [cur l a' s', .arr 2 (t.map nodeV) true]) (DrQ l a 2000 IsTerm) := by
    intro vars t n a' s' h1 h2 h3 h4 h5
    simp [F9_t0]
    simp [fin, F9, h5]
    exact DrQ.mk (by omega) ⟨wide, vars, t.take n, by simp [tsl, List.map_take], hw, h2, h3, by simp; omega, rfl⟩
  have tail : ∀ (t : List (Int × BitVec 64)) (a' : Nat) (s' : BitVec 64), a' ≤ a + 1500 → 1 ≤ t.length → t.length ≤ 31 →
      Ev (go T X F9 1 [.code F9_t1] [(0, .ptr 0 0 0 0), (5, .d (.int .i64 wide)), (6, .d (.int .i64 (1 + v0))), (7, .hs 1 2 0 t.length)] [cur l a' s', .arr 2 (t.map nodeV) true]) (DrQ l a 2000 IsTerm) := by
    intro t a' s' h ht1 ht2
    obtain ⟨n, a4, s4, h4, h41, h42, h43⟩ := (dr_pick 40 (by omega)).num l a' s' (by rfl) (by omega)
    have hl : wr ((t.length : Int) - 1) = ((t.length - 1 : Nat) : Int) := by rw [wr_id] <;> omega
    have hl2 : t.length - 1 < t.length := by omega
    have hp : 0 < t.length := by omega
    by_cases q0 : n = 0
    · have := last (1 + v0) (t.set 0 ((t[0]).1, 9223372036854775808#64)) t.length a4 s4 (by omega) (by omega) (by omega) (by simpa using ht2) (by simp)
      simp [List.map_set, nodeV, node] at this
      simp [F9_t1, h4, q0, hp, nodeV, node]
      exact this
    by_cases q1 : n = 1
    · simp [F9_t1, h4, q1, hl]
      exact last _ _ _ _ _ (by omega) (by omega) (by omega) ht2 (by omega)
    by_cases q2 : n = 2
    · obtain ⟨m, a5, s5, h5, h51, h52⟩ := dr_among l a4 s4 [0, 4, 5] (by simp) (by simp) (by omega)
      simp only [ints, List.map] at h5
      simp at h52
      simp [F9_t1, h4, q2, h5]
      exact last _ _ _ _ _ (by omega) (by omega) (by omega) ht2 (by omega)
    by_cases q3 : n = 3
    · obtain ⟨m, a5, s5, h5, h51, h52⟩ := (dr_pick 23 (by omega)).num l a4 s4 (by rfl) (by omega)
      have := last (1 + v0) (t.set (t.length - 1) (m, (t[t.length - 1]).2)) t.length a5 s5 (by omega) (by omega) (by omega) (by simpa using ht2) (by simp)
      simp [List.map_set, nodeV, node] at this
      simp [F9_t1, h4, q3, h5, hl, hl2, nodeV, node]
      exact this
    simp [F9_t1, h4, q0, q1, q2, q3]
    exact last _ _ _ _ _ (by omega) (by omega) (by omega) ht2 (by omega)
  rw [show ((2 : Nat) : Int) = 2 from rfl] at h2
  cases b
  · simp [e9, F9_c, h0, h1, hv0, h2, h3]
    apply tail
    all_goals omega
  · obtain ⟨u, a4, s4, h4, h41, h42, h43⟩ := (dr_number wide (by omega) (1 + v0) (by omega) 3 (by omega)).ownT l a3 s3 (by rfl) (by simp only [numK]; omega)
    simp only [numK, numL] at h41 h43
    rw [show ((3 : Nat) : Int) = 3 from rfl] at h4
    simp [e9, F9_c, h0, h1, hv0, h2, h3, h4]
    apply tail
    all_goals omega

/-- An interval's cells. -/
def spanC (x : BitVec 64 × BitVec 64) : List D := [.w x.1, .w x.2]
def ssl (l : List (BitVec 64 × BitVec 64)) : D := .sl (l.map spanC)
def IsSpans (n : Nat) (v : AV) (os : List AO) : Prop := ∃ ss : List (BitVec 64 × BitVec 64), v = .d (ssl ss) ∧ ss.length = n ∧ os = []

theorem Dr.span {f : Nat} {as : List AV} {k : Nat} (h : Dr f as k IsSpan) (l : List (BitVec 8)) (a : Nat) (s : BitVec 64) (hp : plainL as = true) (hb : a + k < 4611686018427387904) :
    ∃ x y a' s', (∀ (st : St) (k : Nat), st[k]? = some (cur l a s) → mcall (acall T X) false [] f (.ptr k 0 0 0 :: as) st = some (.agg [.d (.w x), .d (.w y)], st.set k (cur l a' s'))) ∧ a' ≤ a + k := by
  obtain ⟨v, a', s', os, h1, h2, x, y, rfl, rfl⟩ := h.get l a s hb
  exact ⟨x, y, a', s', fun st k hk => by rw [mcall_cur l a s st h1 hp hk]; simp [AM.span], h2⟩

theorem dr_spans (wide : Nat) (hw : wide < 1000) (vars : Nat) (hv : vars < 1000) : Dr 13 [.d (.int .i64 wide), .d (.int .i64 vars)] (44 * vars) (IsSpans vars) := by
  intro l a s ha
  have loop : ∀ (n : Nat) (z : Int) (ss : List (BitVec 64 × BitVec 64)) (a' : Nat) (s' : BitVec 64), ss.length + n = vars → z = ss.length → a' ≤ a + 44 * ss.length →
      Ev (go T X F13 1 [.code F13_b0, .inLoop [(0, .keep), (1, .keep), (2, .keep), (7, .ow 2), (8, .keep)] F13_l0, .inBlock 0, .code (.kp [(7, .keep)] F13_t0)] [(0, .ptr 0 0 0 0), (1, .d (.int .i64 wide)), (2, .d (.int .i64 vars)), (7, .hs 1 2 0 ss.length), (8, .d (.int .i64 z))] [cur l a' s', .arr 2 (ss.map spanC) true]) (DrQ l a (44 * vars) (IsSpans vars)) := by
    intro n
    induction n with
    | zero =>
      intro z ss a' s' hk hz ha'
      subst hz
      have : ss.length = vars := by omega
      simp [F13_b0, F13_t0, this]
      simp [fin, F13, this]
      exact DrQ.mk (by subst this; exact ha') ⟨ss, rfl, this, rfl⟩
    | succ n ih =>
      intro z ss a' s' hk hz ha'
      subst hz
      obtain ⟨x, y, a1, s1, g1, g2⟩ := (dr_span wide hw).span l a' s' (by rfl) (by omega)
      have h1 : ss.length < vars := by omega
      have h2 : ss.length + 1 ≤ maxApp := by simp only [maxApp]; omega
      have := ih (wr ((ss.length : Int) + 1)) (ss ++ [(x, y)]) a1 s1 (by simp; omega) (by rw [wr_id (by omega) (by omega)]; simp) (by simp; omega)
      simp [spanC] at this
      simp [F13_b0, g1, h1, h2]
      rw [go_inLoop]
      simp
      exact this
  simp [e13, F13_c]
  rw [go_inLoop]
  simp
  exact loop vars 0 [] a s (by simp) (by simp) (by simp)
end Go.Proofs.Ytghhjbbildemiaa.AM

namespace Go.Proofs.Ytghhjbbildemiaa.AM
open Go

/-- The bytes of an argument. -/
def bytesD (l : List (BitVec 8)) : D := .sl (l.map fun b => [.u b])

theorem Dr.terms {f : Nat} {as : List AV} {k : Nat} (h : Dr f as k IsTerm) (l : List (BitVec 8)) (a : Nat) (s : BitVec 64) (hp : plainL as = true) (hb : a + k < 4611686018427387904) :
    ∃ (wide vars : Nat) (t : List (Int × BitVec 64)) (a' : Nat) (s' : BitVec 64), (∀ (st : St) (k : Nat), st[k]? = some (cur l a s) → mcall (acall T X) false [] f (.ptr k 0 0 0 :: as) st = some (.tup [.d (.int .i64 wide), .d (.int .i64 vars), .d (tsl t)], st.set k (cur l a' s'))) ∧ a' ≤ a + k ∧ wide ≤ 64 ∧ vars ≤ 5 ∧ t.length ≤ 31 := by
  obtain ⟨v, a', s', os, h1, h2, wide, vars, t, rfl, h3, h4, h5, h6, rfl⟩ := h.get l a s hb
  obtain ⟨k, rfl⟩ : ∃ k : Nat, vars = k := ⟨vars.toNat, by omega⟩
  exact ⟨wide, k, t, a', s', fun st k hk => by rw [mcall_cur l a s st h1 hp hk]; simp, h2, h3, by omega, h6⟩

theorem Dr.spans {f : Nat} {as : List AV} {k n : Nat} (h : Dr f as k (IsSpans n)) (l : List (BitVec 8)) (a : Nat) (s : BitVec 64) (hp : plainL as = true) (hb : a + k < 4611686018427387904) :
    ∃ (ss : List (BitVec 64 × BitVec 64)) (a' : Nat) (s' : BitVec 64), (∀ (st : St) (k : Nat), st[k]? = some (cur l a s) → mcall (acall T X) false [] f (.ptr k 0 0 0 :: as) st = some (.d (ssl ss), st.set k (cur l a' s'))) ∧ a' ≤ a + k ∧ ss.length = n := by
  obtain ⟨v, a', s', os, h1, h2, ss, rfl, h3, rfl⟩ := h.get l a s hb
  exact ⟨ss, a', s', fun st k hk => by rw [mcall_cur l a s st h1 hp hk]; simp, h2, h3⟩

theorem cur_new (l : List (BitVec 8)) : AO.box [.d (.sl (l.map fun b => [.u b])), .d (.int .i64 0), .d (.w 0#64)] = cur l 0 0#64 := rfl

theorem c14 (l : List (BitVec 8)) : ∃ (wide : Nat) (t : List (Int × BitVec 64)) (ss : List (BitVec 64 × BitVec 64)),
    acall T X 14 [.d (bytesD l)] [] = some (.tup [.d (.int .i64 wide), .d (tsl t), .d (ssl ss)], []) ∧ wide ≤ 64 ∧ t.length ≤ 31 ∧ ss.length ≤ 5 := by
  obtain ⟨wide, vars, t, a1, s1, h1, h11, h12, h13, h14⟩ := dr_term.terms l 0 0#64 (by rfl) (by omega)
  obtain ⟨ss, a2, s2, h2, h21, h22⟩ := (dr_spans wide (by omega) vars (by omega)).spans l a1 s1 (by rfl) (by omega)
  refine ⟨wide, t, ss, ?_, h12, h14, by omega⟩
  simp [e14, F14_c, bytesD, cur_new, h1, h2]
  simp [fin, F14, tsl, ssl]

theorem c76 (l : List (BitVec 8)) : ∃ (wide : Int) (a b c d : BitVec 64),
    acall T X 76 [.d (bytesD l)] [] = some (.tup [.d (.int .i64 wide), .agg [.d (.w a), .d (.w b)], .agg [.d (.w c), .d (.w d)]], []) ∧ 0 ≤ wide ∧ wide ≤ 65 := by
  obtain ⟨w0, a1, s1, h1, h11, h12⟩ := dr_width.one l 0 0#64 (by rfl) (by omega)
  obtain ⟨wide, rfl⟩ : ∃ k : Nat, w0 = k := ⟨w0.toNat, by simp at h12; omega⟩
  have hw : wide ≤ 65 := by simp at h12; omega
  obtain ⟨a, b, a2, s2, h2, h21⟩ := (dr_span wide (by omega)).span l a1 s1 (by rfl) (by omega)
  obtain ⟨c, d, a3, s3, h3, h31⟩ := (dr_span wide (by omega)).span l a2 s2 (by rfl) (by omega)
  refine ⟨wide, a, b, c, d, ?_, by omega, by omega⟩
  simp [e76, F76_c, bytesD, cur_new, h1, h2, h3]
  simp [fin, F76]
end Go.Proofs.Ytghhjbbildemiaa.AM

namespace Go.Proofs.Ytghhjbbildemiaa.AM
open Go

theorem cutK_bit (a : BitVec 64) : ∀ (k i : Nat), (cutK a k).getLsbD i = (a.getLsbD i && decide (i < k))
  | 0, i => by simp [cutK]
  | k + 1, i => by
    simp only [cutK, BitVec.getLsbD_or, BitVec.getLsbD_and, cutK_bit a k i, sll, BitVec.getLsbD_shiftLeft]
    by_cases h1 : i < k
    · have : i < k + 1 := by omega
      simp [h1, this]
    · by_cases h2 : i = k
      · subst h2
        cases ha : a.getLsbD i with
        | false => simp
        | true =>
          have : i < 64 := by
            rcases Nat.lt_or_ge i 64 with h | h
            · exact h
            · rw [BitVec.getLsbD_of_ge a i h] at ha; cases ha
          simp [this]
      · have h3 : ¬ i < k + 1 := by omega
        have h4 : i - k ≠ 0 := by omega
        simp [h1, h3, h4, BitVec.getLsbD_one]

/-- The lower bits. -/
theorem cutK_toNat (a : BitVec 64) (k : Nat) : (cutK a k).toNat = a.toNat % 2 ^ k := by
  apply Nat.eq_of_testBit_eq
  intro i
  have := cutK_bit a k i
  rw [BitVec.getLsbD, BitVec.getLsbD] at this
  rw [this, Nat.testBit_mod_two_pow, Bool.and_comm]

/-- A good word of a width. -/
def gw (wide : Int) (a : BitVec 64) : Bool := decide (1 ≤ wide) && (decide (wide ≤ 64) && decide (a.toNat < 2 ^ wide.toNat))

theorem c18 (n : Int) : acall T X 18 [.d (.int .i64 n)] [] = some (.d (.bool (decide (1 ≤ n) && decide (n ≤ 64))), []) := by
  by_cases h : 1 ≤ n
  · simp [e18, F18_c, h]
    simp [fin, F18]
  · simp [e18, F18_c, h]
    simp [fin, F18]
theorem c15 (n : Int) : acall T X 15 [.d (.int .i64 n)] [] = some (.d (.bool (decide (1 ≤ n) && decide (n ≤ 4))), []) := by
  by_cases h : 1 ≤ n
  · simp [e15, F15_c, h]
    simp [fin, F15]
  · simp [e15, F15_c, h]
    simp [fin, F15]
theorem c39 (n lo hi : Int) : acall T X 39 [.d (.int .i64 n), .d (.int .i64 lo), .d (.int .i64 hi)] [] = some (.d (.bool (decide (lo ≤ n) && decide (n ≤ hi))), []) := by
  by_cases h : lo ≤ n
  · simp [e39, F39_c, h]
    simp [fin, F39]
  · simp [e39, F39_c, h]
    simp [fin, F39]
theorem c41 (n : Int) : acall T X 41 [.d (.int .i64 n)] [] = some (.d (.bool (decide (1 ≤ n) && decide (n ≤ 64))), []) := by
  simp [e41, F41_c, c39]
  simp [fin, F41]

/-- The greatest word of a width. -/
def maskW (wide : Int) : BitVec 64 := srl 18446744073709551615#64 (64 - wide).toNat
theorem c19 (n : Int) (h1 : -1000 ≤ n) (h : n ≤ 64) : acall T X 19 [.d (.int .i64 n)] [] = some (.d (.w (maskW n)), []) := by
  have hw : wr (64 - n) = 64 - n := by rw [wr_id] <;> omega
  have h0 : ¬ 64 - n < 0 := by omega
  simp [e19, F19_c, hw, h0]
  simp [fin, F19, maskW]

theorem maskW_toNat {n : Int} (h1 : 1 ≤ n) (h : n ≤ 64) : (maskW n).toNat = 2 ^ n.toNat - 1 := by
  obtain ⟨k, rfl⟩ : ∃ k : Nat, n = k := ⟨n.toNat, by omega⟩
  have hk : k ≤ 64 := by omega
  have e : ((64 : Int) - k).toNat = 64 - k := by omega
  simp only [maskW, srl, e, BitVec.toNat_ushiftRight, Nat.shiftRight_eq_div_pow, Int.toNat_natCast]
  have e2 : (2 : Nat) ^ 64 = 2 ^ k * 2 ^ (64 - k) := by rw [← Nat.pow_add]; congr 1; omega
  have hp : 0 < 2 ^ (64 - k) := Nat.two_pow_pos _
  have hq : 0 < 2 ^ k := Nat.two_pow_pos _
  show 18446744073709551615 / 2 ^ (64 - k) = 2 ^ k - 1
  rw [show (18446744073709551615 : Nat) = 2 ^ 64 - 1 from rfl, e2]
  rw [Nat.div_eq_iff hp]
  constructor
  · have : (2 ^ k - 1) * 2 ^ (64 - k) + 2 ^ (64 - k) = 2 ^ k * 2 ^ (64 - k) := by
      rw [← Nat.succ_mul]; congr 1; omega
    omega
  · have : (2 ^ k - 1) * 2 ^ (64 - k) + 2 ^ (64 - k) = 2 ^ k * 2 ^ (64 - k) := by
      rw [← Nat.succ_mul]; congr 1; omega
    omega

theorem le_mask {n : Int} (h1 : 1 ≤ n) (h : n ≤ 64) (a : BitVec 64) : a ≤ maskW n ↔ a.toNat < 2 ^ n.toNat := by
  rw [BitVec.le_def, maskW_toNat h1 h]
  have : 0 < 2 ^ n.toNat := Nat.two_pow_pos _
  omega

theorem c20 (n : Int) (a : BitVec 64) : acall T X 20 [.d (.int .i64 n), .d (.w a)] [] = some (.d (.bool (gw n a)), []) := by
  by_cases h1 : 1 ≤ n
  · by_cases h2 : n ≤ 64
    · simp [e20, F20_c, c18, h1, h2, c19 n (by omega) h2]
      simp [fin, F20, gw, h1, h2, le_mask h1 h2]
    · simp [e20, F20_c, c18, h1, h2]
      simp [fin, F20, gw, h1, h2]
  · simp [e20, F20_c, c18, h1]
    simp [fin, F20, gw, h1]

theorem cut_eq {n : Int} (a : BitVec 64) : (cutK a n.toNat = a) ↔ a.toNat < 2 ^ n.toNat := by
  constructor
  · intro h
    have := congrArg BitVec.toNat h
    rw [cutK_toNat] at this
    rw [← this]
    exact Nat.mod_lt _ (Nat.two_pow_pos _)
  · intro h
    apply BitVec.eq_of_toNat_eq
    rw [cutK_toNat, Nat.mod_eq_of_lt h]

theorem c42 (n : Int) (a : BitVec 64) : acall T X 42 [.d (.int .i64 n), .d (.w a)] [] = some (.d (.bool (gw n a)), []) := by
  by_cases h1 : 1 ≤ n
  · by_cases h2 : n ≤ 64
    · obtain ⟨k, rfl⟩ : ∃ k : Nat, n = k := ⟨n.toNat, by omega⟩
      have hc := cut_eq (n := (k : Int)) a
      simp only [Int.toNat_natCast] at hc
      simp [e42, F42_c, c41, h1, h2, c6 a k (by omega)]
      simp [fin, F42, gw, h1, h2, ← hc]
      rfl
    · simp [e42, F42_c, c41, h1, h2]
      simp [fin, F42, gw, h1, h2]
  · simp [e42, F42_c, c41, h1]
    simp [fin, F42, gw, h1]
end Go.Proofs.Ytghhjbbildemiaa.AM

namespace Go.Proofs.Ytghhjbbildemiaa.AM
open Go

/-- How many operands, of which kind, and the own kind. -/
def many (op : Int) : Int := if op = 13 ∨ op = 19 then 1 else if 3 ≤ op ∧ op ≤ 12 ∨ 14 ≤ op ∧ op ≤ 18 then 2 else 0
def part (op : Int) : Int := if 3 ≤ op ∧ op ≤ 16 then 1 else if 17 ≤ op ∧ op ≤ 19 then 2 else 0
def partS (op : Int) : Int := if op = 1 ∨ op = 2 then 1 else if op = 20 then 2 else part op
def ownK (op : Int) : Int := if 1 ≤ op ∧ op ≤ 13 then 1 else if 14 ≤ op ∧ op ≤ 20 then 2 else 0

theorem ops_cases (op : Int) : op = 1 ∨ op = 2 ∨ op = 3 ∨ op = 4 ∨ op = 5 ∨ op = 6 ∨ op = 7 ∨ op = 8 ∨ op = 9 ∨ op = 10 ∨ op = 11 ∨ op = 12 ∨ op = 13 ∨ op = 14 ∨ op = 15 ∨ op = 16 ∨ op = 17 ∨ op = 18 ∨ op = 19 ∨ op = 20 ∨ (op < 1 ∨ 20 < op) := by omega

theorem c24_out (op : Int) (h : op < 1 ∨ 20 < op) : acall T X 24 [.d (.int .i64 op)] [] = some (.tup [.d (.int .i64 0), .d (.int .i64 0), .d (.int .i64 0)], []) := by
  have h1 : op ≠ 1 := by omega
  have h2 : op ≠ 2 := by omega
  have h3 : op ≠ 20 := by omega
  have h4 : op ≠ 13 := by omega
  have h5 : op ≠ 19 := by omega
  have h6 : op ≠ 17 := by omega
  have h7 : op ≠ 18 := by omega
  rcases h with h | h
  · have h8 : ¬ 3 ≤ op := by omega
    have h9 : ¬ 14 ≤ op := by omega
    simp [e24, F24_c, h1, h2, h3, h4, h5, h6, h7, h8, h9]
    simp [fin, F24]
  · have h8 : ¬ op ≤ 12 := by omega
    have h9 : ¬ op ≤ 16 := by omega
    have h10 : 3 ≤ op := by omega
    have h11 : 14 ≤ op := by omega
    simp [e24, F24_c, h1, h2, h3, h4, h5, h6, h7, h8, h9, h10, h11]
    simp [fin, F24]

theorem c24 (op : Int) : acall T X 24 [.d (.int .i64 op)] [] = some (.tup [.d (.int .i64 (many op)), .d (.int .i64 (part op)), .d (.int .i64 (ownK op))], []) := by
  rcases ops_cases op with rfl | rfl | rfl | rfl | rfl | rfl | rfl | rfl | rfl | rfl | rfl | rfl | rfl | rfl | rfl | rfl | rfl | rfl | rfl | rfl | h
  case inr.inr.inr.inr.inr.inr.inr.inr.inr.inr.inr.inr.inr.inr.inr.inr.inr.inr.inr.inr =>
    rw [c24_out op h]
    have h1 : many op = 0 := by unfold many; split <;> (try split) <;> omega
    have h2 : part op = 0 := by unfold part; split <;> (try split) <;> omega
    have h3 : ownK op = 0 := by unfold ownK; split <;> (try split) <;> omega
    rw [h1, h2, h3]
  all_goals
    simp [e24, F24_c]
    simp [fin, F24, many, part, ownK]

theorem c40_out (op : Int) (h : op < 1 ∨ 20 < op) : acall T X 40 [.d (.int .i64 op)] [] = some (.tup [.d (.int .i64 0), .d (.int .i64 0), .d (.int .i64 0)], []) := by
  have h1 : op ≠ 1 := by omega
  have h2 : op ≠ 2 := by omega
  have h3 : op ≠ 20 := by omega
  have h4 : op ≠ 13 := by omega
  have h5 : op ≠ 19 := by omega
  have h6 : op ≠ 17 := by omega
  have h7 : op ≠ 18 := by omega
  rcases h with h | h
  · have h8 : ¬ 3 ≤ op := by omega
    have h9 : ¬ 14 ≤ op := by omega
    simp [e40, F40_c, c39, h1, h2, h3, h4, h5, h6, h7, h8, h9]
    simp [fin, F40]
  · have h8 : ¬ op ≤ 12 := by omega
    have h9 : ¬ op ≤ 16 := by omega
    have h10 : 3 ≤ op := by omega
    have h11 : 14 ≤ op := by omega
    simp [e40, F40_c, c39, h1, h2, h3, h4, h5, h6, h7, h8, h9, h10, h11]
    simp [fin, F40]

theorem c40 (op : Int) : acall T X 40 [.d (.int .i64 op)] [] = some (.tup [.d (.int .i64 (many op)), .d (.int .i64 (partS op)), .d (.int .i64 (ownK op))], []) := by
  rcases ops_cases op with rfl | rfl | rfl | rfl | rfl | rfl | rfl | rfl | rfl | rfl | rfl | rfl | rfl | rfl | rfl | rfl | rfl | rfl | rfl | rfl | h
  case inr.inr.inr.inr.inr.inr.inr.inr.inr.inr.inr.inr.inr.inr.inr.inr.inr.inr.inr.inr =>
    rw [c40_out op h]
    have h1 : many op = 0 := by unfold many; split <;> (try split) <;> omega
    have h2 : partS op = 0 := by unfold partS part; (repeat' split) <;> omega
    have h3 : ownK op = 0 := by unfold ownK; split <;> (try split) <;> omega
    rw [h1, h2, h3]
  all_goals
    simp [e40, F40_c, c39]
    simp [fin, F40, many, partS, part, ownK]

/-- A leaf's number is as its operator asks. -/
def leafOk (wide vars : Int) (x : Int × BitVec 64) : Bool :=
  if x.1 = 1 then gw wide x.2 else if x.1 = 2 then decide (x.2 < ofI vars) else if x.1 = 20 then decide (x.2 ≤ 1#64) else x.2 == 0#64

theorem c25 (wide vars : Int) (x : Int × BitVec 64) : acall T X 25 [.d (.int .i64 wide), .d (.int .i64 vars), .agg [.d (.int .i64 x.1), .d (.w x.2)]] [] = some (.d (.bool (leafOk wide vars x)), []) := by
  by_cases h1 : x.1 = 1
  · simp [e25, F25_c, h1, c20]
    simp [fin, F25, leafOk, h1]
  by_cases h2 : x.1 = 2
  · simp [e25, F25_c, h2]
    simp [fin, F25, leafOk, h2]
  by_cases h3 : x.1 = 20
  · simp [e25, F25_c, h3]
    simp [fin, F25, leafOk, h3]
  simp [e25, F25_c, h1, h2, h3]
  simp [fin, F25, leafOk, h1, h2, h3]

theorem lt_two (x : BitVec 64) : x < 2#64 ↔ x ≤ 1#64 := by
  rw [BitVec.lt_def, BitVec.le_def]
  show x.toNat < 2 ↔ x.toNat ≤ 1
  omega

theorem c43 (wide vars : Int) (x : Int × BitVec 64) : acall T X 43 [.d (.int .i64 wide), .d (.int .i64 vars), .agg [.d (.int .i64 x.1), .d (.w x.2)]] [] = some (.d (.bool (leafOk wide vars x)), []) := by
  by_cases h1 : x.1 = 1
  · simp [e43, F43_c, h1, c42]
    simp [fin, F43, leafOk, h1]
  by_cases h2 : x.1 = 2
  · simp [e43, F43_c, h2]
    simp [fin, F43, leafOk, h2]
  by_cases h3 : x.1 = 20
  · simp [e43, F43_c, h3]
    simp [fin, F43, leafOk, h3, lt_two]
  simp [e43, F43_c, h1, h2, h3]
  simp [fin, F43, leafOk, h1, h2, h3]
end Go.Proofs.Ytghhjbbildemiaa.AM
