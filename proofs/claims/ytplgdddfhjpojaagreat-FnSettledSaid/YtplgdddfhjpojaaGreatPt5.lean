/-
The program's interval of a term. The program's interval of a term is the specification's. The program's SpanOf. Small functions on words. Division. What an operator with two operands makes of two words. Joins of intervals. States. A state within intervals. A number out of bytes. The program's value of a term: one node. The value of a tree; it is a word, or a truth value. A term's value lies in its interval (Cousot). A term's value lies in its interval (Cousot): trees. The program's ValueOf. The program's ValueOf, big. Joins and meets of drawn intervals are as the law says. The law's state: a word out of each interval. The law FnSpanned answers true. A place for later words. Drawn commands. Drawn programs, their commands still their own. Drawn small programs. Drawn small programs: what becomes of them. What is drawn of programs, intervals and states. What the law draws of programs and intervals. The kind of a good term; a term of a kind. Good commands, good programs: the implementation's tests. Good programs: both tests. Terms as trees; intervals of a program. One round of the intervals. One round of the intervals: the specification's. Equal lists of intervals. Rounds keep good intervals. Settled intervals: both functions. Settled intervals: the specification's. A step of a program; a state within intervals, both tests. A step of a program; a state within intervals, both tests: the rest. Settled intervals hold a program's steps. The law FnSettled answers true.
Conditions: none beyond those that each theorem states.
-/
import Derived.Test.YtplgdddfhjpojaaGreatPt4
set_option linter.all false
namespace Go.Proofs.YtplgdddfhjpojaaGreat.AM
open Go

/-- The loop over a term's nodes with a pile of intervals. -/
noncomputable def G37 (wide : Nat) (ss : List Sp) (t : List Nd) (S : List Sp) (i : Int) : Option (AV × St) :=
  go T X F37 0 [.code F37_b0, .inLoop [(2, .keep), (6, .keep), (7, .keep), (8, .ow 2), (16, .keep), (17, .keep), (18, .keep)] F37_l0, .inBlock 0, .code (.kp [(6, .keep), (8, .keep)] F37_t2)]
    [(2, .d (ssl ss)), (6, .ptr 0 0 0 0), (7, .ptr 1 0 0 0), (8, .hs 2 2 0 S.length), (16, .d (tsl t)), (17, .d (.int .i64 t.length)), (18, .d (.int .i64 i))]
    [.box [.d (.w 0#64), .d (.w 0#64)], .box [.d (.w 0#64), .d (.w (endW wide))], .arr 2 (S.map spanC) true]

section
variable (wide : Nat) (ss : List Sp) (t : List Nd) (ht : t.length < 1000000) (S : List Sp) (hS : S.length < 1000000) (i : Nat) (hi : i < t.length) (x : Nd) (hx : t[i] = x)
include ht hS hi hx

theorem G37_num (h : x.1 = 1 ∨ x.1 = 20) (R : Option (AV × St)) (hR : G37 wide ss t (S ++ [(x.2, x.2)]) ((i : Int) + 1) = R) : G37 wide ss t S i = R := by
  have hw1 : wr ((S.length : Int) - 1) = (S.length : Int) - 1 := by rw [wr_id] <;> omega
  have hw2 : wr ((i : Int) + 1) = (i : Int) + 1 := by rw [wr_id] <;> omega
  have hm : S.length + 1 ≤ maxApp := by simp only [maxApp]; omega
  unfold G37 at hR ⊢
  simp [tsl, spanC] at hR
  rcases h with h | h
  · simp [F37_b0, tsl, hi, hx, nodeV, node, h, hw1, F37_t0, hm, F37_t1, hw2]
    rw [go_inLoop]
    simp
    exact hR
  · simp [F37_b0, tsl, hi, hx, nodeV, node, h, hw1, F37_t0, hm, F37_t1, hw2]
    rw [go_inLoop]
    simp
    exact hR

theorem G37_var (h : x.1 = 2) (hv : x.2.toNat < ss.length) (R : Option (AV × St)) (hR : G37 wide ss t (S ++ [ss[x.2.toNat]]) ((i : Int) + 1) = R) : G37 wide ss t S i = R := by
  have hw1 : wr ((S.length : Int) - 1) = (S.length : Int) - 1 := by rw [wr_id] <;> omega
  have hw2 : wr ((i : Int) + 1) = (i : Int) + 1 := by rw [wr_id] <;> omega
  have hm : S.length + 1 ≤ maxApp := by simp only [maxApp]; omega
  unfold G37 at hR ⊢
  simp [tsl, ssl, spanC] at hR
  simp [F37_b0, tsl, hi, hx, nodeV, node, h, hw1, F37_t0, hm, F37_t1, hw2, ssl, hv, spanC]
  rw [go_inLoop]
  simp
  exact hR

theorem G37_flip (h : x.1 = 13) (s : Sp) (R : Option (AV × St)) (hR : G37 wide ss t (S ++ [(endW wide - s.2, endW wide - s.1)]) ((i : Int) + 1) = R) : G37 wide ss t (S ++ [s]) i = R := by
  have hw1 : wr (S.length : Int) = (S.length : Int) := by rw [wr_id] <;> omega
  have hw2 : wr ((i : Int) + 1) = (i : Int) + 1 := by rw [wr_id] <;> omega
  have hlt : (S.length : Int) < (S.length : Int) + 1 := by omega
  unfold G37 at hR ⊢
  simp [tsl, spanC] at hR
  simp [F37_b0, tsl, hi, hx, nodeV, node, h, hw1, F37_t0, hlt, F37_t1, hw2, spanC]
  rw [go_inLoop]
  simp
  exact hR

theorem G37_no (h : x.1 = 19) (s : Sp) (R : Option (AV × St)) (hR : G37 wide ss t (S ++ [(1#64 - s.2, 1#64 - s.1)]) ((i : Int) + 1) = R) : G37 wide ss t (S ++ [s]) i = R := by
  have hw1 : wr (S.length : Int) = (S.length : Int) := by rw [wr_id] <;> omega
  have hw2 : wr ((i : Int) + 1) = (i : Int) + 1 := by rw [wr_id] <;> omega
  have hlt : (S.length : Int) < (S.length : Int) + 1 := by omega
  unfold G37 at hR ⊢
  simp [tsl, spanC] at hR
  simp [F37_b0, tsl, hi, hx, nodeV, node, h, hw1, F37_t0, hlt, F37_t1, hw2, spanC]
  rw [go_inLoop]
  simp
  exact hR

theorem G37_two (hw : wide ≤ 64) (h : many x.1 = 2) (a b : Sp) (ha : okS wide (part x.1) a) (hb : okS wide (part x.1) b) (R : Option (AV × St)) (hR : G37 wide ss t (S ++ [twoS wide x.1 a b]) ((i : Int) + 1) = R) : G37 wide ss t (S ++ [a, b]) i = R := by
  have hw1 : wr ((S.length : Int) + 1) = (S.length : Int) + 1 := by rw [wr_id] <;> omega
  have hw0 : wr (S.length : Int) = (S.length : Int) := by rw [wr_id] <;> omega
  have hw3 : wr ((S.length : Int) + 2 - 1) = (S.length : Int) + 1 := by rw [wr_id] <;> omega
  have hw2 : wr ((i : Int) + 1) = (i : Int) + 1 := by rw [wr_id] <;> omega
  have hlt : (S.length : Int) < (S.length : Int) + 2 := by omega
  have hle : (S.length : Int) ≤ (S.length : Int) + 2 := by omega
  have hlt1 : (S.length : Int) + 1 < (S.length : Int) + 2 := by omega
  have h0 : (0 : Int) ≤ (S.length : Int) + 1 := by omega
  have hn : ((S.length : Int) + 1).toNat = S.length + 1 := by omega
  have hm : S.length + 1 ≤ maxApp := by simp only [maxApp]; omega
  have k := c36 wide hw x.1 h a b ha hb
  have n1 : ¬ x.1 = 1 := by rcases bi_cases h with q | q | q | q <;> omega
  have n2 : ¬ x.1 = 2 := by rcases bi_cases h with q | q | q | q <;> omega
  have n13 : ¬ x.1 = 13 := by rcases bi_cases h with q | q | q | q <;> omega
  have n19 : ¬ x.1 = 19 := by rcases bi_cases h with q | q | q | q <;> omega
  have n20 : ¬ x.1 = 20 := by rcases bi_cases h with q | q | q | q <;> omega
  simp only [spV, allS] at k
  unfold G37 at hR ⊢
  simp [tsl, spanC] at hR
  simp [F37_b0, tsl, hi, hx, nodeV, node, n1, n2, n13, n19, n20, hw0, hw1, hw3, F37_t0, hlt, hlt1, hle, h0, hn, F37_t1, hw2, spanC, k, hm]
  rw [go_inLoop]
  simp
  exact hR
end
end Go.Proofs.YtplgdddfhjpojaaGreat.AM

namespace Go.Proofs.YtplgdddfhjpojaaGreat.AM
open Go

theorem notW_eq {wide : Nat} (h : wide ≤ 64) {x : BitVec 64} (hx : x.toNat < 2 ^ wide) : endW wide - x = notW wide x := by
  apply BitVec.eq_of_toNat_eq
  rw [notW_toNat h hx, BitVec.toNat_sub_of_le (by rw [BitVec.le_def, endW_toNat h]; omega), endW_toNat h]

theorem G37_tree (wide : Nat) (hw : wide ≤ 64) (ss : List Sp) (hs : ∀ s ∈ ss, goodS wide s = true) (hl : ss.length < 1000) (t : List Nd) (ht : t.length < 1000) : ∀ (r : Tr) (pre post : List Nd) (S : List Sp), r.good wide ss.length → t = pre ++ (r.flat ++ post) → S.length ≤ pre.length →
    ∀ R, G37 wide ss t (S ++ [spanS wide ss r]) ((pre.length + r.flat.length : Nat) : Int) = R → G37 wide ss t S (pre.length : Int) = R
  | .lf x, pre, post, S, hg, he, hS, R, hR => by
    obtain ⟨hm, h2, h3⟩ := hg
    simp only [Tr.flat] at he hR
    have h1 : pre.length < t.length := by simp [he]
    have h4 : t[pre.length] = x := by simp [he]
    have hc : ((pre.length + [x].length : Nat) : Int) = (pre.length : Int) + 1 := by simp
    rw [hc] at hR
    rcases leaf_cases hm h2 with h | h | h
    · refine G37_num wide ss t (by omega) S (by omega) pre.length h1 x h4 (.inl h) R ?_
      simpa [spanS, h] using hR
    · have hv : x.2.toNat < ss.length := by
        simp [leafOk, h] at h3
        rw [BitVec.lt_def, ofI_toNat hl] at h3
        exact h3
      refine G37_var wide ss t (by omega) S (by omega) pre.length h1 x h4 h hv R ?_
      simpa [spanS, h, hv] using hR
    · refine G37_num wide ss t (by omega) S (by omega) pre.length h1 x h4 (.inr h) R ?_
      simpa [spanS, h] using hR
  | .un x a, pre, post, S, hg, he, hS, R, hR => by
    obtain ⟨hm, h2, h3, h4, hga⟩ := hg
    simp only [Tr.flat] at he hR
    have hok := spanS_ok hw hs hl a hga
    rw [h4] at hok
    refine G37_tree wide hw ss hs hl t ht a pre (x :: post) S hga (by simp [he]) hS R ?_
    have hi : pre.length + a.flat.length < t.length := by simp [he]
    have hx : t[pre.length + a.flat.length] = x := by simp [he]
    have hc : ((pre.length + (a.flat ++ [x]).length : Nat) : Int) = ((pre.length + a.flat.length : Nat) : Int) + 1 := by simp; omega
    rw [hc] at hR
    rcases un_cases hm with h | h
    · refine G37_flip wide ss t (by omega) S (by omega) _ hi x hx h _ R ?_
      obtain ⟨i1, i2, _⟩ := hok
      have i2 := i2 (by simp [part, h])
      rw [notW_eq hw i2, notW_eq hw (Nat.lt_of_le_of_lt i1 i2)]
      simpa [spanS, h] using hR
    · refine G37_no wide ss t (by omega) S (by omega) _ hi x hx h _ R ?_
      simpa [spanS, h] using hR
  | .bi x a b, pre, post, S, hg, he, hS, R, hR => by
    obtain ⟨hm, h2, h3, h4, h5, hga, hgb⟩ := hg
    simp only [Tr.flat] at he hR
    have hoa := spanS_ok hw hs hl a hga
    have hob := spanS_ok hw hs hl b hgb
    rw [h4] at hoa
    rw [h5] at hob
    refine G37_tree wide hw ss hs hl t ht a pre (b.flat ++ (x :: post)) S hga (by simp [he]) hS R ?_
    have e1 : ((pre.length + a.flat.length : Nat) : Int) = ((pre ++ a.flat).length : Nat) := by simp
    rw [e1]
    have hp := a.flat_pos
    refine G37_tree wide hw ss hs hl t ht b (pre ++ a.flat) (x :: post) (S ++ [spanS wide ss a]) hgb (by simp [he]) (by simp; omega) R ?_
    have hi : (pre ++ a.flat).length + b.flat.length < t.length := by simp [he]; omega
    have hx : t[(pre ++ a.flat).length + b.flat.length] = x := by simp [he, Nat.add_assoc]
    have hc : ((pre.length + (a.flat ++ (b.flat ++ [x])).length : Nat) : Int) = (((pre ++ a.flat).length + b.flat.length : Nat) : Int) + 1 := by simp; omega
    rw [hc] at hR
    rw [List.append_assoc]
    refine G37_two wide ss t (by omega) S (by omega) _ hi x hx hw hm _ _ hoa hob R ?_
    exact hR
end Go.Proofs.YtplgdddfhjpojaaGreat.AM

namespace Go.Proofs.YtplgdddfhjpojaaGreat.AM
open Go

theorem mask_end {wide : Nat} (h1 : 1 ≤ wide) (h : wide ≤ 64) : maskW (wide : Int) = endW wide := by
  apply BitVec.eq_of_toNat_eq
  rw [maskW_toNat (by omega) (by omega), endW_toNat h]
  simp

theorem c37 (wide : Nat) (h1 : 1 ≤ wide) (hw : wide ≤ 64) (ss : List Sp) (hs : ∀ s ∈ ss, goodS wide s = true) (hl : ss.length < 1000) (r : Tr) (ht : r.flat.length < 1000) (hg : r.good wide ss.length) :
    acall T X 37 [.d (.int .i64 wide), .d (tsl r.flat), .d (ssl ss)] [] = some (spV (spanS wide ss r), []) := by
  have hend : G37 wide ss r.flat [spanS wide ss r] (r.flat.length : Int) = some (spV (spanS wide ss r), []) := by
    unfold G37
    simp [F37_b0, F37_t2, spanC]
    simp [fin, F37, spV]
  have hm := G37_tree wide hw ss hs hl r.flat ht r [] [] [] hg (by simp) (by simp) _ (by simpa using hend)
  unfold G37 at hm
  simp [tsl, ssl] at hm
  simp [e37, F37_c, c19 wide (by omega) (by omega), mask_end h1 hw, tsl, ssl]
  rw [go_inLoop]
  simp
  exact hm

end Go.Proofs.YtplgdddfhjpojaaGreat.AM

namespace Go.Proofs.YtplgdddfhjpojaaGreat.AM
open Go

theorem c64 (wide : Int) (a b : BitVec 64) : acall T X 64 [.d (.int .i64 wide), .d (.w a), .d (.w b)] [] = some (.d (.bool (gw wide a && gw wide b)), []) := by
  cases h : gw wide a with
  | true =>
    simp [e64, F64_c, c20, h]
    simp [fin, F64]
  | false =>
    simp [e64, F64_c, c20, h]
    simp [fin, F64]

/-- An interval has a word. -/
def hasS (s : Sp) (a : BitVec 64) : Bool := decide (s.1 ≤ a) && decide (a ≤ s.2)
theorem c62 (s : Sp) (a : BitVec 64) : acall T X 62 [.agg [.d (.w s.1), .d (.w s.2)], .d (.w a)] [] = some (.d (.bool (hasS s a)), []) := by
  by_cases h : s.1 ≤ a
  · simp [e62, F62_c, h]
    simp [fin, F62, hasS, h]
  · simp [e62, F62_c, h]
    simp [fin, F62, hasS, h]

def truthW (b : Bool) : BitVec 64 := if b = true then 1#64 else 0#64
theorem c70 (b : Bool) : acall T X 70 [.d (.bool b)] [] = some (.d (.w (truthW b)), []) := by
  cases b <;> (simp [e70, F70_c]; simp [fin, F70, truthW])

theorem c60 (wide : Int) (a : BitVec 64) : acall T X 60 [.d (.w a), .eptr [.int .i64 wide] 0] [] = some (.d (.bool (!gw wide a)), []) := by
  simp [e60, F60_c, c20]
  simp [fin, F60]

theorem i_shr (a : Int) (k : IntKind) (n : Int) : abin .shr (.int .i64 a) (.int k n) = if n < 0 then none else some (.int .i64 (a.fdiv (2 ^ (min n.toNat 64)))) := by
  simp only [abin, ashift, Bool.false_eq_true, if_false]
  rfl

def signedW (wide : Int) (a : BitVec 64) : Int := (toI (sll a (64 - wide).toNat)).fdiv (2 ^ (min (64 - wide).toNat 64))
theorem c71 (wide : Int) (h1 : 1 ≤ wide) (h2 : wide ≤ 64) (a : BitVec 64) : acall T X 71 [.d (.int .i64 wide), .d (.w a)] [] = some (.d (.int .i64 (signedW wide a)), []) := by
  have hw : wr (64 - wide) = 64 - wide := by rw [wr_id] <;> omega
  have h0 : ¬ 64 - wide < 0 := by omega
  simp [e71, F71_c, hw, h0, i_shr]
  simp [fin, F71, signedW]

def shiftW (wide : Nat) (a b : BitVec 64) (left : Bool) : BitVec 64 := if ofI (wide : Int) ≤ b then 0#64 else if left = true then sll a b.toNat &&& endW wide else srl a b.toNat
theorem c69 (wide : Nat) (h1 : 1 ≤ wide) (h2 : wide ≤ 64) (a b : BitVec 64) (left : Bool) : acall T X 69 [.d (.int .i64 wide), .d (.w a), .d (.w b), .d (.bool left)] [] = some (.d (.w (shiftW wide a b left)), []) := by
  by_cases h : ofI (wide : Int) ≤ b
  · simp [e69, F69_c, h]
    simp [fin, F69, shiftW, h]
  · cases left
    · simp [e69, F69_c, h]
      simp [fin, F69, shiftW, h]
    · simp [e69, F69_c, h, c19 wide (by omega) (by omega), mask_end h1 h2]
      simp [fin, F69, shiftW, h]
end Go.Proofs.YtplgdddfhjpojaaGreat.AM

namespace Go.Proofs.YtplgdddfhjpojaaGreat.AM
open Go

theorem c67 (a b : BitVec 64) (hb : ¬ b = 0#64) : acall T X 67 [.d (.w 0#64), .d (.w a), .d (.w b)] [] = some (.tup [.d (.w (a / b)), .d (.w (a % b))], []) := by
  have hp : 0#64 < b := by
    rw [BitVec.lt_def]
    rcases Nat.eq_zero_or_pos b.toNat with h | h
    · exact absurd (BitVec.eq_of_toNat_eq (by simpa using h)) hb
    · simpa using h
  have h1 : ¬ b ≤ 0#64 := by rw [BitVec.le_def]; rw [BitVec.lt_def] at hp; simp at hp ⊢; omega
  simp [e67, F67_c, hb, h1, hp]
  simp [F67_t3, F67_t2, hb, h1, hp]
  simp [fin, F67, hb]

def divW (wide : Nat) (a b : BitVec 64) : BitVec 64 := if b = 0#64 then endW wide else a / b
def remW (a b : BitVec 64) : BitVec 64 := if b = 0#64 then a else a % b
theorem c68 (wide : Nat) (h1 : 1 ≤ wide) (h2 : wide ≤ 64) (a b : BitVec 64) (ha : gw wide a = true) (hb : gw wide b = true) : acall T X 68 [.d (.int .i64 wide), .d (.w a), .d (.w b)] [] = some (.tup [.d (.w (divW wide a b)), .d (.w (remW a b)), .d (.bool true)], []) := by
  have k := c64 wide a b
  rw [ha, hb] at k
  by_cases h : b = 0#64
  · subst h
    simp [e68, F68_c, k, c19 wide (by omega) (by omega), mask_end h1 h2]
    simp [fin, F68, divW, remW]
  · simp [e68, F68_c, k, h, c67 a b h]
    simp [fin, F68, divW, remW, h]
end Go.Proofs.YtplgdddfhjpojaaGreat.AM

namespace Go.Proofs.YtplgdddfhjpojaaGreat.AM
open Go

def applyR (wide : Nat) (op : Int) (a b : BitVec 64) : BitVec 64 :=
  if op = 3 then a + b else if op = 4 then a - b else if op = 5 then a * b else if op = 6 then divW wide a b else if op = 7 then remW a b
  else if op = 8 ∨ op = 17 then a &&& b else if op = 9 ∨ op = 18 then a ||| b else if op = 10 then a ^^^ b
  else if op = 11 then shiftW wide a b true else if op = 12 then shiftW wide a b false
  else if op = 14 then truthW (a == b) else if op = 15 then truthW (decide (a < b)) else if op = 16 then truthW (decide (signedW wide a < signedW wide b)) else 0#64
def applyW (wide : Nat) (op : Int) (a b : BitVec 64) : BitVec 64 := applyR wide op a b &&& endW wide

set_option maxHeartbeats 4000000 in
theorem c72 (wide : Nat) (h1 : 1 ≤ wide) (h2 : wide ≤ 64) (op : Int) (hm : many op = 2) (a b : BitVec 64) (ha : gw wide a = true) (hb : gw wide b = true) :
    acall T X 72 [.d (.int .i64 wide), .d (.int .i64 op), .d (.w a), .d (.w b)] [] = some (.d (.w (applyW wide op a b)), []) := by
  have hops : op = 3 ∨ op = 4 ∨ op = 5 ∨ op = 6 ∨ op = 7 ∨ op = 8 ∨ op = 9 ∨ op = 10 ∨ op = 11 ∨ op = 12 ∨ op = 14 ∨ op = 15 ∨ op = 16 ∨ op = 17 ∨ op = 18 := by
    rcases bi_cases hm with h | h | h | h <;> omega
  have k68 := c68 wide h1 h2 a b ha hb
  have k19 := c19 wide (by omega) (by omega)
  rw [mask_end h1 h2] at k19
  have k69 := c69 wide h1 h2 a b
  have k71 := c71 wide (by omega) (by omega)
  have tail : ∀ o : BitVec 64, go T X F72 0 [.code F72_t3] [(0, .d (.int .i64 wide)), (9, .d (.w o))] [] = some (.d (.w (o &&& endW wide)), []) := by
    intro o
    simp [F72_t3, k19]
    simp [fin, F72]
  rcases hops with rfl | rfl | rfl | rfl | rfl | rfl | rfl | rfl | rfl | rfl | rfl | rfl | rfl | rfl | rfl
  all_goals
    simp [e72, F72_c, F72_t0, F72_t1, F72_t2, k68, k69, k71, c70, tail, applyW, applyR]
end Go.Proofs.YtplgdddfhjpojaaGreat.AM

namespace Go.Proofs.YtplgdddfhjpojaaGreat.AM
open Go

def joinS (a b : Sp) : Sp := (leastW a.1 b.1, mostW a.2 b.2)
theorem c77 (a b : Sp) : acall T X 77 [spV a, spV b] [] = some (spV (joinS a b), []) := by
  have e1 : ∀ x y : BitVec 64, (if x < y then y else x) = mostW x y := fun x y => maxW_eq x y
  have e2 : ∀ x y : BitVec 64, (if y < x then y else x) = leastW x y := fun x y => minW_eq x y
  simp only [spV]
  simp [e77, F77_c, e1, e2]
  simp [fin, F77, joinS]
theorem c79 (a b : Sp) : acall T X 79 [spV a, spV b] [] = some (spV (joinS a b), []) := by
  simp only [spV]
  simp [e79, F79_c, c50, c51]
  simp [fin, F79, joinS]

def joinR (wide : Int) (a b : Sp) : Sp × Bool := if (goodS wide a && goodS wide b) = true then (joinS a b, true) else ((0#64, 0#64), false)
def meetR (wide : Int) (a b : Sp) : Sp × Bool := if (goodS wide a && goodS wide b) = true then (meetS a b, meets a b) else ((0#64, 0#64), false)
end Go.Proofs.YtplgdddfhjpojaaGreat.AM

namespace Go.Proofs.YtplgdddfhjpojaaGreat.AM
open Go

/-- Words as a slice. -/
def wordsD (ws : List (BitVec 64)) : D := .sl (ws.map fun w => [.w w])

theorem index58 (g : Nat) (caps : List AV) (hk : CapOk caps) (p : BitVec 64 → Bool) (hp : ∀ x, acall T X g (.d (.w x) :: caps) [] = some (.d (.bool (p x)), [])) (xs : List (BitVec 64)) (hl : xs.length < 1000000) :
    Ev (acall T X 58 [.d (wordsD xs), .fn g caps] []) fun r => ∃ n : Int, r = (.d (.int .i64 n), []) ∧ (0 ≤ n ↔ xs.any p = true) := by
  obtain ⟨hc, hc2, hc3⟩ := hk
  have loop : ∀ (suf pre : List (BitVec 64)) (z : Int), xs = pre ++ suf → z = pre.length →
      Ev (go T X F58 0 [.code F58_b0, .inLoop [(0, .keep), (1, .keep), (7, .keep), (8, .keep)] F58_l0, .inBlock 0, .code (.kp [] F58_t0)] [(0, .d (wordsD xs)), (1, .fn g caps), (7, .d (.int .i64 xs.length)), (8, .d (.int .i64 z))] []) fun r => ∃ n : Int, r = (.d (.int .i64 n), []) ∧ (0 ≤ n ↔ suf.any p = true) := by
    intro suf
    induction suf with
    | nil =>
      intro pre z hx hz
      subst hz
      have : xs.length = pre.length := by simp [hx]
      simp [F58_b0, this, F58_t0]
      simp [fin, F58]
    | cons x suf ih =>
      intro pre z hx hz
      subst hz
      have h1 : pre.length < xs.length := by simp [hx]
      have h2 : xs[pre.length] = x := by simp [hx]
      cases hpx : p x with
      | true =>
        simp [F58_b0, h1, wordsD, h2, hc, hp, hpx]
        simp [fin, F58]
      | false =>
        have := ih (pre ++ [x]) (wr ((pre.length : Int) + 1)) (by simp [hx]) (by rw [wr_id (by omega) (by omega)]; simp)
        simp [wordsD] at this
        simp [F58_b0, h1, wordsD, h2, hc, hp, hpx]
        rw [go_inLoop]
        simp [hc2, hc3]
        exact this
  have := loop xs [] 0 rfl rfl
  simp [e58, F58_c, wordsD] at this ⊢
  rw [go_inLoop]
  simp [hc2, hc3]
  exact this

theorem contains59 (g : Nat) (caps : List AV) (hk : CapOk caps) (p : BitVec 64 → Bool) (hp : ∀ x, acall T X g (.d (.w x) :: caps) [] = some (.d (.bool (p x)), [])) (xs : List (BitVec 64)) (hl : xs.length < 1000000) :
    acall T X 59 [.d (wordsD xs), .fn g caps] [] = some (.d (.bool (xs.any p)), []) := by
  obtain ⟨r, h, n, rfl, hn⟩ := index58 g caps hk p hp xs hl
  obtain ⟨hc, hc2, hc3⟩ := hk
  have hb : decide (0 ≤ n) = xs.any p := by
    rw [Bool.eq_iff_iff]; simpa using hn
  simp only [wordsD] at h ⊢
  simp [e59, F59_c, hc, h, hb]
  simp [fin, F59, hb]

/-- A state of n words. -/
def stateOk (wide n : Int) (ws : List (BitVec 64)) : Bool := (decide (1 ≤ wide) && decide (wide ≤ 64)) && (decide (1 ≤ n) && decide (n ≤ 4)) && decide ((ws.length : Int) = n) && ws.all (gw wide)
theorem c61 (wide n : Int) (ws : List (BitVec 64)) (hl : ws.length < 1000000) : acall T X 61 [.d (.int .i64 wide), .d (.int .i64 n), .d (wordsD ws)] [] = some (.d (.bool (stateOk wide n ws)), []) := by
  have kc := contains59 60 [.eptr [.int .i64 wide] 0] (capOk_one _) (fun a => !gw wide a) (fun a => c60 wide a) ws hl
  have hna := not_any_all (gw wide) ws
  simp only [wordsD] at kc ⊢
  by_cases h1 : 1 ≤ wide
  case neg => simp [e61, F61_c, c18, h1]; simp [fin, F61, stateOk, h1]
  by_cases h2 : wide ≤ 64
  case neg => simp [e61, F61_c, c18, h1, h2]; simp [fin, F61, stateOk, h1, h2]
  by_cases h3 : 1 ≤ n
  case neg => simp [e61, F61_c, c18, c15, h1, h2, h3]; simp [fin, F61, stateOk, h1, h2, h3]
  by_cases h4 : n ≤ 4
  case neg => simp [e61, F61_c, c18, c15, h1, h2, h3, h4]; simp [fin, F61, stateOk, h1, h2, h3, h4]
  by_cases h5 : (ws.length : Int) = n
  case neg => simp [e61, F61_c, c18, c15, h1, h2, h3, h4, h5]; simp [fin, F61, stateOk, h1, h2, h3, h4, h5]
  simp [e61, F61_c, c18, c15, h1, h2, h3, h4, h5, kc]
  rw [hna]
  simp [fin, F61, stateOk, h1, h2, h3, h4, h5]
end Go.Proofs.YtplgdddfhjpojaaGreat.AM

namespace Go.Proofs.YtplgdddfhjpojaaGreat.AM
open Go

/-- Each word in its interval. -/
def within : List Sp → List (BitVec 64) → Bool
  | s :: ss, w :: ws => hasS s w && within ss ws
  | _, _ => true

theorem c63_loop (ss : List Sp) (ws : List (BitVec 64)) (hlen : ws.length = ss.length) (hl : ss.length < 1000000) : ∀ (suf pre : List Sp) (suw prw : List (BitVec 64)) (z : Int), ss = pre ++ suf → ws = prw ++ suw → prw.length = pre.length → z = pre.length →
    go T X F63 0 [.code F63_b0, .inLoop [(2, .keep), (22, .keep), (23, .keep), (24, .keep)] F63_l0, .inBlock 0, .code (.kp [] F63_t0)] [(2, .d (wordsD ws)), (22, .d (ssl ss)), (23, .d (.int .i64 ss.length)), (24, .d (.int .i64 z))] [] =
      some (.tup [.d (.bool (within suf suw)), .d (.bool true)], []) := by
  intro suf
  induction suf with
  | nil =>
    intro pre suw prw z hs hw hp hz
    subst hz
    have : ss.length = pre.length := by simp [hs]
    simp [F63_b0, this, F63_t0]
    simp [fin, F63, within]
  | cons s suf ih =>
    intro pre suw prw z hs hw hp hz
    subst hz
    cases suw with
    | nil => simp [hs, hw] at hlen; omega
    | cons w suw =>
      have h1 : pre.length < ss.length := by simp [hs]
      have h1' : pre.length < ws.length := by omega
      have h2 : ss[pre.length] = s := by simp [hs]
      have h3 : ws[pre.length] = w := by simp [hw, ← hp]
      have kc := c62 s w
      have := ih (pre ++ [s]) suw (prw ++ [w]) (wr ((pre.length : Int) + 1)) (by simp [hs]) (by simp [hw]) (by simp [hp]) (by rw [wr_id (by omega) (by omega)]; simp)
      simp only [wordsD, ssl] at this
      cases hh : hasS s w with
      | true =>
        rw [hh] at kc
        simp [F63_b0, h1, h1', h2, h3, ssl, wordsD, spanC, kc]
        rw [go_inLoop]
        simp
        rw [this]
        simp [within, hh]
      | false =>
        rw [hh] at kc
        simp [F63_b0, h1, h1', h2, h3, ssl, wordsD, spanC, kc]
        simp [fin, F63, within, hh]

theorem c63_good (wide : Int) (ss : List Sp) (ws : List (BitVec 64)) (hl : ss.length < 1000000) (h1 : goodSS wide ss = true) (h2 : stateOk wide ss.length ws = true) :
    acall T X 63 [.d (.int .i64 wide), .d (ssl ss), .d (wordsD ws)] [] = some (.tup [.d (.bool (within ss ws)), .d (.bool true)], []) := by
  have hlen : ws.length = ss.length := by
    simp only [stateOk, Bool.and_eq_true, decide_eq_true_eq] at h2
    omega
  have k1 := c23 wide ss hl
  have k2 := c61 wide ss.length ws (by omega)
  rw [h1] at k1
  rw [h2] at k2
  have k3 := c63_loop ss ws hlen hl ss [] ws [] 0 rfl rfl rfl rfl
  simp only [ssl, wordsD] at k1 k2 k3 ⊢
  simp [e63, F63_c, k1, k2]
  rw [go_inLoop]
  simp
  exact k3
end Go.Proofs.YtplgdddfhjpojaaGreat.AM

namespace Go.Proofs.YtplgdddfhjpojaaGreat.AM
open Go

theorem c57 (l : List (BitVec 8)) (hl : l.length < 4611686018427387904) : Ev (acall T X 57 [.d (bytesD l)] []) fun r => ∃ n : Nat, r = (.d (.int .i64 n), []) ∧ n < 1000003 := by
  have loop : ∀ (suf pre : List (BitVec 8)) (z m : Int), l = pre ++ suf → z = pre.length → 0 ≤ m → m < 1000003 →
      Ev (go T X F57 0 [.code F57_b0, .inLoop [(3, .keep), (6, .keep), (7, .keep), (8, .keep)] F57_l0, .inBlock 0, .code (.kp [(3, .keep)] F57_t0)] [(3, .d (.int .i64 m)), (6, .d (bytesD l)), (7, .d (.int .i64 l.length)), (8, .d (.int .i64 z))] []) fun r => ∃ n : Nat, r = (.d (.int .i64 n), []) ∧ n < 1000003 := by
    intro suf
    induction suf with
    | nil =>
      intro pre z m hx hz h0 h1
      subst hz
      obtain ⟨k, rfl⟩ : ∃ k : Nat, m = k := ⟨m.toNat, by omega⟩
      have : l.length = pre.length := by simp [hx]
      simp [F57_b0, this, F57_t0]
      simp [fin, F57]
      exact ⟨k, rfl, by omega⟩
    | cons b suf ih =>
      intro pre z m hx hz h0 h1
      subst hz
      have h2 : pre.length < l.length := by simp [hx]
      have h3 : l[pre.length] = b := by simp [hx]
      have hb : b.toNat < 256 := b.isLt
      have w1 : wr (31 * m) = 31 * m := by rw [wr_id] <;> omega
      have w2 : wr (31 * m + (b.toNat : Int)) = 31 * m + (b.toNat : Int) := by rw [wr_id] <;> omega
      have e : (31 * m + (b.toNat : Int)).tmod 1000003 = (31 * m + (b.toNat : Int)) % 1000003 := Int.tmod_eq_emod_of_nonneg (by omega)
      have := ih (pre ++ [b]) (wr ((pre.length : Int) + 1)) ((31 * m + (b.toNat : Int)) % 1000003) (by simp [hx]) (by rw [wr_id (by omega) (by omega)]; simp) (by omega) (by omega)
      simp only [bytesD] at this
      simp [F57_b0, bytesD, h2, h3, w1, w2, e]
      rw [go_inLoop]
      simp
      exact this
  have := loop l [] 0 0 rfl rfl (by omega) (by omega)
  simp only [bytesD] at this ⊢
  simp [e57, F57_c]
  rw [go_inLoop]
  simp
  exact this
end Go.Proofs.YtplgdddfhjpojaaGreat.AM

namespace Go.Proofs.YtplgdddfhjpojaaGreat.AM
open Go

/-- The loop over a term's nodes with a pile of words. -/
noncomputable def G73 (wide : Nat) (ws : List (BitVec 64)) (t : List Nd) (S : List (BitVec 64)) (i : Int) : Option (AV × St) :=
  go T X F73 0 [.code F73_b0, .inLoop [(0, .keep), (2, .keep), (7, .ow 1), (12, .keep), (13, .keep), (14, .keep)] F73_l0, .inBlock 0, .code (.kp [(7, .keep)] F73_t2)]
    [(0, .d (.int .i64 wide)), (2, .d (wordsD ws)), (7, .hs 0 1 0 S.length), (12, .d (tsl t)), (13, .d (.int .i64 t.length)), (14, .d (.int .i64 i))]
    [.arr 1 (S.map fun w => [.w w]) true]

section
variable (wide : Nat) (h1 : 1 ≤ wide) (hwd : wide ≤ 64) (ws : List (BitVec 64)) (t : List Nd) (ht : t.length < 1000000) (S : List (BitVec 64)) (hS : S.length < 1000000) (i : Nat) (hi : i < t.length) (x : Nd) (hx : t[i] = x)
include h1 hwd ht hS hi hx

theorem G73_num (h : x.1 = 1 ∨ x.1 = 20) (R : Option (AV × St)) (hR : G73 wide ws t (S ++ [x.2]) ((i : Int) + 1) = R) : G73 wide ws t S i = R := by
  have hw1 : wr ((S.length : Int) - 1) = (S.length : Int) - 1 := by rw [wr_id] <;> omega
  have hw2 : wr ((i : Int) + 1) = (i : Int) + 1 := by rw [wr_id] <;> omega
  have hm : S.length + 1 ≤ maxApp := by simp only [maxApp]; omega
  unfold G73 at hR ⊢
  simp [tsl] at hR
  rcases h with h | h
  · simp [F73_b0, tsl, hi, hx, nodeV, node, h, hw1, F73_t0, hm, F73_t1, hw2]
    rw [go_inLoop]
    simp
    exact hR
  · simp [F73_b0, tsl, hi, hx, nodeV, node, h, hw1, F73_t0, hm, F73_t1, hw2]
    rw [go_inLoop]
    simp
    exact hR

theorem G73_var (h : x.1 = 2) (hv : x.2.toNat < ws.length) (R : Option (AV × St)) (hR : G73 wide ws t (S ++ [ws[x.2.toNat]]) ((i : Int) + 1) = R) : G73 wide ws t S i = R := by
  have hw1 : wr ((S.length : Int) - 1) = (S.length : Int) - 1 := by rw [wr_id] <;> omega
  have hw2 : wr ((i : Int) + 1) = (i : Int) + 1 := by rw [wr_id] <;> omega
  have hm : S.length + 1 ≤ maxApp := by simp only [maxApp]; omega
  unfold G73 at hR ⊢
  simp [tsl, wordsD] at hR
  simp [F73_b0, tsl, hi, hx, nodeV, node, h, hw1, F73_t0, hm, F73_t1, hw2, wordsD, hv]
  rw [go_inLoop]
  simp
  exact hR

theorem G73_flip (h : x.1 = 13) (s : BitVec 64) (R : Option (AV × St)) (hR : G73 wide ws t (S ++ [~~~s &&& endW wide]) ((i : Int) + 1) = R) : G73 wide ws t (S ++ [s]) i = R := by
  have hw1 : wr (S.length : Int) = (S.length : Int) := by rw [wr_id] <;> omega
  have hw2 : wr ((i : Int) + 1) = (i : Int) + 1 := by rw [wr_id] <;> omega
  have hlt : (S.length : Int) < (S.length : Int) + 1 := by omega
  have k19 := c19 wide (by omega) (by omega)
  rw [mask_end h1 hwd] at k19
  unfold G73 at hR ⊢
  simp [tsl] at hR
  simp [F73_b0, tsl, hi, hx, nodeV, node, h, hw1, F73_t0, hlt, F73_t1, hw2, k19]
  rw [go_inLoop]
  simp
  exact hR

theorem G73_no (h : x.1 = 19) (s : BitVec 64) (R : Option (AV × St)) (hR : G73 wide ws t (S ++ [1#64 - s]) ((i : Int) + 1) = R) : G73 wide ws t (S ++ [s]) i = R := by
  have hw1 : wr (S.length : Int) = (S.length : Int) := by rw [wr_id] <;> omega
  have hw2 : wr ((i : Int) + 1) = (i : Int) + 1 := by rw [wr_id] <;> omega
  have hlt : (S.length : Int) < (S.length : Int) + 1 := by omega
  unfold G73 at hR ⊢
  simp [tsl] at hR
  simp [F73_b0, tsl, hi, hx, nodeV, node, h, hw1, F73_t0, hlt, F73_t1, hw2]
  rw [go_inLoop]
  simp
  exact hR

theorem G73_two (h : many x.1 = 2) (a b : BitVec 64) (ha : gw wide a = true) (hb : gw wide b = true) (R : Option (AV × St)) (hR : G73 wide ws t (S ++ [applyW wide x.1 a b]) ((i : Int) + 1) = R) : G73 wide ws t (S ++ [a, b]) i = R := by
  have hw1 : wr ((S.length : Int) + 1) = (S.length : Int) + 1 := by rw [wr_id] <;> omega
  have hw0 : wr (S.length : Int) = (S.length : Int) := by rw [wr_id] <;> omega
  have hw3 : wr ((S.length : Int) + 2 - 1) = (S.length : Int) + 1 := by rw [wr_id] <;> omega
  have hw2 : wr ((i : Int) + 1) = (i : Int) + 1 := by rw [wr_id] <;> omega
  have hlt : (S.length : Int) < (S.length : Int) + 2 := by omega
  have hle : (S.length : Int) ≤ (S.length : Int) + 2 := by omega
  have hlt1 : (S.length : Int) + 1 < (S.length : Int) + 2 := by omega
  have h0 : (0 : Int) ≤ (S.length : Int) + 1 := by omega
  have hn : ((S.length : Int) + 1).toNat = S.length + 1 := by omega
  have hm : S.length + 1 ≤ maxApp := by simp only [maxApp]; omega
  have k := c72 wide h1 hwd x.1 h a b ha hb
  have n1 : ¬ x.1 = 1 := by rcases bi_cases h with q | q | q | q <;> omega
  have n2 : ¬ x.1 = 2 := by rcases bi_cases h with q | q | q | q <;> omega
  have n13 : ¬ x.1 = 13 := by rcases bi_cases h with q | q | q | q <;> omega
  have n19 : ¬ x.1 = 19 := by rcases bi_cases h with q | q | q | q <;> omega
  have n20 : ¬ x.1 = 20 := by rcases bi_cases h with q | q | q | q <;> omega
  unfold G73 at hR ⊢
  simp [tsl] at hR
  simp [F73_b0, tsl, hi, hx, nodeV, node, n1, n2, n13, n19, n20, hw0, hw1, hw3, F73_t0, hlt, hlt1, hle, h0, hn, F73_t1, hw2, k, hm]
  rw [go_inLoop]
  simp
  exact hR
end
end Go.Proofs.YtplgdddfhjpojaaGreat.AM

namespace Go.Proofs.YtplgdddfhjpojaaGreat.AM
open Go

def valS (wide : Nat) (ws : List (BitVec 64)) : Tr → BitVec 64
  | .lf x => if x.1 = 2 then ws.getD x.2.toNat 0#64 else x.2
  | .un x a => if x.1 = 13 then ~~~(valS wide ws a) &&& endW wide else 1#64 - valS wide ws a
  | .bi x a b => applyW wide x.1 (valS wide ws a) (valS wide ws b)

theorem and_end {wide : Nat} (h : wide ≤ 64) (a : BitVec 64) : (a &&& endW wide).toNat = a.toNat % 2 ^ wide := by
  rw [BitVec.toNat_and, endW_toNat h]
  exact Nat.and_two_pow_sub_one_eq_mod a.toNat wide

/-- A word lies in an interval. -/
def inS (v : BitVec 64) (s : Sp) : Prop := s.1.toNat ≤ v.toNat ∧ v.toNat ≤ s.2.toNat

theorem numS_has {wide : Nat} (h1 : 1 ≤ wide) (h : wide ≤ 64) {op : Int} (ho : 3 ≤ op ∧ op ≤ 12) {A B : Sp} {a b : BitVec 64} (hA : okS wide 1 A) (hB : okS wide 1 B) (ha : inS a A) (hb : inS b B) : inS (applyW wide op a b) (numS wide op A B) := by
  obtain ⟨A1, A2, _⟩ := hA
  obtain ⟨B1, B2, _⟩ := hB
  have A2 := A2 rfl
  have B2 := B2 rfl
  obtain ⟨a1, a2⟩ := ha
  obtain ⟨b1, b2⟩ := hb
  have hp : 0 < 2 ^ wide := Nat.two_pow_pos _
  have h64 : (2 : Nat) ^ wide ≤ 2 ^ 64 := Nat.pow_le_pow_right (by decide) h
  have h64' : (2 : Nat) ^ 64 = 18446744073709551616 := by decide
  have he := endW_toNat h
  have hv : (applyW wide op a b).toNat = (applyR wide op a b).toNat % 2 ^ wide := and_end h _
  have hlt : (applyW wide op a b).toNat < 2 ^ wide := by rw [hv]; exact Nat.mod_lt _ hp
  have all : inS (applyW wide op a b) (0#64, endW wide) := ⟨by simp, by simp only [he]; omega⟩
  have small : ∀ k : Nat, (applyR wide op a b).toNat = k → k < 2 ^ wide → (applyW wide op a b).toNat = k := fun k q1 q2 => by rw [hv, q1, Nat.mod_eq_of_lt q2]
  have hop : op = 3 ∨ op = 4 ∨ op = 5 ∨ op = 6 ∨ op = 7 ∨ op = 8 ∨ op = 9 ∨ op = 10 ∨ op = 11 ∨ op = 12 := by omega
  rcases hop with rfl | rfl | rfl | rfl | rfl | rfl | rfl | rfl | rfl | rfl
  · by_cases hc : A.2 ≤ endW wide - B.2
    · simp only [numS, hc, and_self, if_true, true_and]
      rw [BitVec.le_def, BitVec.toNat_sub_of_le (by rw [BitVec.le_def]; omega), he] at hc
      have := small (a.toNat + b.toNat) (by simp only [applyR, if_true, BitVec.toNat_add]; omega) (by omega)
      constructor
      · rw [this]; simp only [BitVec.toNat_add]; omega
      · rw [this]; simp only [BitVec.toNat_add]; omega
    · simpa [numS, hc] using all
  · by_cases hc : B.2 ≤ A.1
    · simp only [numS, hc, and_self, if_true, true_and, show ¬ ((4 : Int) = 3) by decide, show ¬ ((4 : Int) = 5) by decide, false_and, if_false]
      have q1 := BitVec.toNat_sub_of_le hc
      rw [BitVec.le_def] at hc
      have q2 := BitVec.toNat_sub_of_le (x := A.2) (y := B.1) (by rw [BitVec.le_def]; omega)
      have q3 := BitVec.toNat_sub_of_le (x := a) (y := b) (by rw [BitVec.le_def]; omega)
      have := small (a.toNat - b.toNat) (by simp [applyR, q3]) (by omega)
      constructor
      · rw [this]; simp only [q1]; omega
      · rw [this]; simp only [q2]; omega
    · simpa [numS, hc] using all
  · cases hc : fitsW wide A.2 B.2 with
    | true =>
      simp only [numS, hc, and_self, if_true, show ¬ ((5 : Int) = 3) by decide, false_and, if_false]
      have hf := fitsW_spec h hc
      have m1 : A.1.toNat * B.1.toNat ≤ a.toNat * b.toNat := Nat.mul_le_mul a1 b1
      have m2 : a.toNat * b.toNat ≤ A.2.toNat * B.2.toNat := Nat.mul_le_mul a2 b2
      have := small (a.toNat * b.toNat) (by simp [applyR, BitVec.toNat_mul]; omega) (by omega)
      constructor
      · rw [this]; simp only [BitVec.toNat_mul]; rw [Nat.mod_eq_of_lt (by omega)]; omega
      · rw [this]; simp only [BitVec.toNat_mul]; rw [Nat.mod_eq_of_lt (by omega)]; omega
    | false => simpa [numS, hc] using all
  · by_cases hc : 0#64 < B.1
    · have hB0 : 0 < B.1.toNat := by rw [BitVec.lt_def] at hc; simpa using hc
      have hb0 : ¬ b = 0#64 := by rintro rfl; simp at b1; omega
      have := small (a.toNat / b.toNat) (by simp [applyR, divW, hb0]) (Nat.lt_of_le_of_lt (Nat.div_le_self _ _) (by omega))
      simp only [numS, hc, and_self, if_true, show ¬ ((6 : Int) = 3) by decide, show ¬ ((6 : Int) = 5) by decide, show ¬ ((6 : Int) = 4) by decide, false_and, if_false]
      constructor
      · rw [this]; simp only [BitVec.toNat_udiv]; exact Nat.div_le_div a1 b2 (by omega)
      · rw [this]; simp only [BitVec.toNat_udiv]; exact Nat.div_le_div a2 b1 (by omega)
    · simpa [numS, hc] using all
  · have hr : (remW a b).toNat ≤ a.toNat ∧ (b.toNat ≠ 0 → (remW a b).toNat < b.toNat) := by
      unfold remW
      split
      · rename_i q; subst q; exact ⟨Nat.le_refl _, fun q => absurd rfl q⟩
      · rw [BitVec.toNat_umod]; exact ⟨Nat.mod_le _ _, fun q => Nat.mod_lt _ (by omega)⟩
    have := small (remW a b).toNat (by simp [applyR]) (by omega)
    by_cases hc : 0#64 < B.1
    · have hB0 : 0 < B.1.toNat := by rw [BitVec.lt_def] at hc; simpa using hc
      have q := BitVec.toNat_sub_of_le (x := B.2) (y := 1#64) (by rw [BitVec.le_def]; simp; omega)
      simp [numS, hc]
      refine ⟨by simp, ?_⟩
      simp only [this, leastW_toNat, q]
      have := hr.2 (by omega)
      simp
      omega
    · simp [numS, hc]
      refine ⟨by simp, ?_⟩
      simp only [this]; omega
  · have := small (a &&& b).toNat (by simp [applyR]) (by rw [BitVec.toNat_and]; exact Nat.lt_of_le_of_lt Nat.and_le_left (by omega))
    simp [numS]
    refine ⟨by simp, ?_⟩
    simp only [this, leastW_toNat, BitVec.toNat_and]
    have q1 : a.toNat &&& b.toNat ≤ a.toNat := Nat.and_le_left
    have q2 : a.toNat &&& b.toNat ≤ b.toNat := Nat.and_le_right
    omega
  · have ho2 : a.toNat ||| b.toNat < 2 ^ wide := Nat.or_lt_two_pow (by omega) (by omega)
    have := small (a ||| b).toNat (by simp [applyR]) (by rw [BitVec.toNat_or]; exact ho2)
    simp [numS]
    constructor
    · simp only [this, mostW_toNat, BitVec.toNat_or]
      have q1 : a.toNat ≤ a.toNat ||| b.toNat := Nat.left_le_or
      have q2 : b.toNat ≤ a.toNat ||| b.toNat := Nat.right_le_or
      omega
    · simp only [he]; omega
  · simpa [numS] using all
  · simpa [numS] using all
  · have hs : (shiftW wide a b false).toNat ≤ a.toNat := by
      unfold shiftW
      split
      · simp
      · simp only [Bool.false_eq_true, if_false, srl, BitVec.toNat_ushiftRight, Nat.shiftRight_eq_div_pow]
        exact Nat.div_le_self _ _
    have := small (shiftW wide a b false).toNat (by simp [applyR]) (by omega)
    simp [numS]
    refine ⟨by simp, ?_⟩
    simp only [this]; omega
end Go.Proofs.YtplgdddfhjpojaaGreat.AM

namespace Go.Proofs.YtplgdddfhjpojaaGreat.AM
open Go

theorem truthW_toNat (p : Bool) : (truthW p).toNat = if p = true then 1 else 0 := by cases p <;> rfl

theorem askS_has {wide : Nat} (h1 : 1 ≤ wide) (h : wide ≤ 64) {op : Int} {A B : Sp} {a b : BitVec 64} (ho : (14 ≤ op ∧ op ≤ 16) ∨ ((op = 17 ∨ op = 18) ∧ A.2.toNat ≤ 1 ∧ B.2.toNat ≤ 1)) (ha : inS a A) (hb : inS b B) : inS (applyW wide op a b) (askS op A B) := by
  obtain ⟨a1, a2⟩ := ha
  obtain ⟨b1, b2⟩ := hb
  have hp : 2 ≤ 2 ^ wide := by
    calc 2 = 2 ^ 1 := rfl
      _ ≤ 2 ^ wide := Nat.pow_le_pow_right (by decide) h1
  have hv : (applyW wide op a b).toNat = (applyR wide op a b).toNat % 2 ^ wide := and_end h _
  have small : ∀ k : Nat, (applyR wide op a b).toNat = k → k ≤ 1 → (applyW wide op a b).toNat = k := fun k q1 q2 => by rw [hv, q1, Nat.mod_eq_of_lt (by omega)]
  have hop : op = 14 ∨ op = 15 ∨ op = 16 ∨ op = 17 ∨ op = 18 := by omega
  rcases hop with rfl | rfl | rfl | rfl | rfl
  · have hs := small (if (a == b) = true then 1 else 0) (by simp [applyR, truthW_toNat]) (by split <;> omega)
    unfold askS
    split
    · rename_i hc
      have hc := hc.2
      rw [BitVec.lt_def, BitVec.lt_def] at hc
      have : ¬ (a == b) = true := by
        intro q
        have := eq_of_beq q
        subst this
        omega
      rw [if_neg this] at hs
      exact ⟨by simp, by simp [hs]⟩
    · split
      · rename_i hc
        obtain ⟨_, hc1, rfl⟩ := hc
        have : a = b := by
          apply BitVec.eq_of_toNat_eq
          rw [hc1] at a1 b1
          omega
        subst this
        rw [if_pos (by simp)] at hs
        exact ⟨by simp [hs], by simp [hs]⟩
      · simp
        refine ⟨by simp, ?_⟩
        rw [hs]; split <;> simp
  · have hs := small (if decide (a < b) = true then 1 else 0) (by simp [applyR, truthW_toNat]) (by split <;> omega)
    unfold askS
    split
    · rename_i hc; exact absurd hc.1 (by decide)
    split
    · rename_i hc; exact absurd hc.1 (by decide)
    split
    · rename_i hc
      have hc := hc.2
      rw [BitVec.lt_def] at hc
      rw [if_pos (by rw [decide_eq_true_eq, BitVec.lt_def]; omega)] at hs
      exact ⟨by simp [hs], by simp [hs]⟩
    split
    · rename_i hc
      have hc := hc.2
      rw [BitVec.le_def] at hc
      rw [if_neg (by rw [decide_eq_true_eq, BitVec.lt_def]; omega)] at hs
      exact ⟨by simp, by simp [hs]⟩
    simp
    refine ⟨by simp, ?_⟩
    rw [hs]; split <;> simp
  · have hs := small (if decide (signedW wide a < signedW wide b) = true then 1 else 0) (by simp [applyR, truthW_toNat]) (by split <;> omega)
    simp [askS]
    refine ⟨by simp, ?_⟩
    rw [hs]; split <;> simp
  · obtain ⟨q1, q2⟩ : A.2.toNat ≤ 1 ∧ B.2.toNat ≤ 1 := by omega
    have e : (a &&& b).toNat = min a.toNat b.toNat := by
      rw [BitVec.toNat_and]
      have ha : a.toNat = 0 ∨ a.toNat = 1 := by omega
      have hb : b.toNat = 0 ∨ b.toNat = 1 := by omega
      rcases ha with ha | ha <;> rcases hb with hb | hb <;> rw [ha, hb] <;> rfl
    have hs := small (min a.toNat b.toNat) (by simp [applyR]; rw [← e, BitVec.toNat_and]) (by omega)
    simp [askS]
    constructor
    · simp only [hs, leastW_toNat]; omega
    · simp only [hs, leastW_toNat]; omega
  · obtain ⟨q1, q2⟩ : A.2.toNat ≤ 1 ∧ B.2.toNat ≤ 1 := by omega
    have e : (a ||| b).toNat = max a.toNat b.toNat := by
      rw [BitVec.toNat_or]
      have ha : a.toNat = 0 ∨ a.toNat = 1 := by omega
      have hb : b.toNat = 0 ∨ b.toNat = 1 := by omega
      rcases ha with ha | ha <;> rcases hb with hb | hb <;> rw [ha, hb] <;> rfl
    have hs := small (max a.toNat b.toNat) (by simp [applyR]; rw [← e, BitVec.toNat_or]) (by omega)
    simp [askS]
    constructor
    · simp only [hs, mostW_toNat]; omega
    · simp only [hs, mostW_toNat]; omega
end Go.Proofs.YtplgdddfhjpojaaGreat.AM

namespace Go.Proofs.YtplgdddfhjpojaaGreat.AM
open Go

theorem within_get : ∀ {ss : List Sp} {ws : List (BitVec 64)}, within ss ws = true → ∀ (k : Nat) (h1 : k < ss.length) (h2 : k < ws.length), hasS ss[k] ws[k] = true
  | [], _, _, k, h1, _ => by simp at h1
  | _ :: _, [], _, k, _, h2 => by simp at h2
  | s :: ss, w :: ws, h, k, h1, h2 => by
    simp only [within, Bool.and_eq_true] at h
    cases k with
    | zero => exact h.1
    | succ k => exact within_get h.2 k (by simpa using h1) (by simpa using h2)

theorem valS_in {wide : Nat} (h1 : 1 ≤ wide) (hw : wide ≤ 64) {ss : List Sp} (hs : ∀ s ∈ ss, goodS wide s = true) (hl : ss.length < 1000) {ws : List (BitVec 64)} (hlen : ws.length = ss.length) (hin : within ss ws = true) :
    ∀ r : Tr, r.good wide ss.length → inS (valS wide ws r) (spanS wide ss r)
  | .lf x, hg => by
    obtain ⟨hm, h2, h3⟩ := hg
    by_cases hv : x.1 = 2
    · simp [leafOk, hv] at h3
      rw [BitVec.lt_def, ofI_toNat hl] at h3
      have := within_get hin x.2.toNat h3 (by omega)
      simp only [hasS, Bool.and_eq_true, decide_eq_true_eq, BitVec.le_def] at this
      simp [valS, spanS, hv, List.getElem?_eq_getElem h3, List.getElem?_eq_getElem (show x.2.toNat < ws.length by omega)]
      exact this
    · simp [valS, spanS, hv]
      exact ⟨Nat.le_refl _, Nat.le_refl _⟩
  | .un x a, hg => by
    obtain ⟨hm, h2, h3, h4, hga⟩ := hg
    have hok := spanS_ok hw hs hl a hga
    rw [h4] at hok
    obtain ⟨i1, i2⟩ := valS_in h1 hw hs hl hlen hin a hga
    obtain ⟨o1, o2, o3⟩ := hok
    rcases un_cases hm with h | h
    · have o2 := o2 (by simp [part, h])
      have hv : (~~~(valS wide ws a) &&& endW wide) = notW wide (valS wide ws a) := by
        apply BitVec.eq_of_toNat_eq
        rw [and_end hw, notW, cutK_toNat]
      simp only [valS, spanS, h, if_true, hv]
      constructor
      · simp only [notW_toNat hw o2, notW_toNat hw (Nat.lt_of_le_of_lt i2 o2)]; omega
      · simp only [notW_toNat hw (Nat.lt_of_le_of_lt i2 o2), notW_toNat hw (Nat.lt_of_le_of_lt o1 o2)]; omega
    · have o3 := o3 (by simp [part, h])
      have e1 := BitVec.toNat_sub_of_le (x := 1#64) (y := (spanS wide ss a).2) (by rw [BitVec.le_def]; simpa using o3)
      have e2 := BitVec.toNat_sub_of_le (x := 1#64) (y := (spanS wide ss a).1) (by rw [BitVec.le_def]; simp; omega)
      have e3 := BitVec.toNat_sub_of_le (x := 1#64) (y := valS wide ws a) (by rw [BitVec.le_def]; simp; omega)
      simp [valS, spanS, h]
      constructor
      · simp only [e1, e3]; omega
      · simp only [e2, e3]; omega
  | .bi x a b, hg => by
    obtain ⟨hm, h2, h3, h4, h5, hga, hgb⟩ := hg
    have hoa := spanS_ok hw hs hl a hga
    have hob := spanS_ok hw hs hl b hgb
    rw [h4] at hoa
    rw [h5] at hob
    have ia := valS_in h1 hw hs hl hlen hin a hga
    have ib := valS_in h1 hw hs hl hlen hin b hgb
    rcases bi_cases hm with h | h | h | h
    · have hk : ownK x.1 = 1 := by unfold ownK; rw [if_pos (by omega)]
      have hp : part x.1 = 1 := by unfold part; rw [if_pos (by omega)]
      rw [hp] at hoa hob
      simp only [valS, spanS, hk, if_true]
      exact numS_has h1 hw h hoa hob ia ib
    · have hk : ownK x.1 = 2 := by unfold ownK; rw [if_neg (by omega), if_pos (by omega)]
      simp only [valS, spanS, hk]
      exact askS_has h1 hw (.inl h) ia ib
    · have hk : ownK x.1 = 2 := by simp [ownK, h]
      have hp : part x.1 = 2 := by simp [part, h]
      simp only [valS, spanS, hk]
      exact askS_has h1 hw (.inr ⟨.inl h, hoa.2.2 hp, hob.2.2 hp⟩) ia ib
    · have hk : ownK x.1 = 2 := by simp [ownK, h]
      have hp : part x.1 = 2 := by simp [part, h]
      simp only [valS, spanS, hk]
      exact askS_has h1 hw (.inr ⟨.inr h, hoa.2.2 hp, hob.2.2 hp⟩) ia ib
end Go.Proofs.YtplgdddfhjpojaaGreat.AM

namespace Go.Proofs.YtplgdddfhjpojaaGreat.AM
open Go

theorem gw_of {wide : Nat} (h1 : 1 ≤ wide) (h : wide ≤ 64) {a : BitVec 64} (ha : a.toNat < 2 ^ wide) : gw wide a = true := by
  simp only [gw, Bool.and_eq_true, decide_eq_true_eq]
  exact ⟨by omega, by omega, by simpa using ha⟩

theorem two_le {wide : Nat} (h1 : 1 ≤ wide) : 2 ≤ 2 ^ wide := by
  calc 2 = 2 ^ 1 := rfl
    _ ≤ 2 ^ wide := Nat.pow_le_pow_right (by decide) h1

/-- What is seen of a tree's value: a word of the width. -/
theorem G73_tree (wide : Nat) (h1 : 1 ≤ wide) (hw : wide ≤ 64) (ss : List Sp) (hs : ∀ s ∈ ss, goodS wide s = true) (hl : ss.length < 1000) (ws : List (BitVec 64)) (hlen : ws.length = ss.length) (hin : within ss ws = true) (t : List Nd) (ht : t.length < 1000) : ∀ (r : Tr) (pre post : List Nd) (S : List (BitVec 64)), r.good wide ss.length → t = pre ++ (r.flat ++ post) → S.length ≤ pre.length →
    ∀ R, G73 wide ws t (S ++ [valS wide ws r]) ((pre.length + r.flat.length : Nat) : Int) = R → G73 wide ws t S (pre.length : Int) = R
  | .lf x, pre, post, S, hg, he, hS, R, hR => by
    obtain ⟨hm, h2, h3⟩ := hg
    simp only [Tr.flat] at he hR
    have hi : pre.length < t.length := by simp [he]
    have hx : t[pre.length] = x := by simp [he]
    have hc : ((pre.length + [x].length : Nat) : Int) = (pre.length : Int) + 1 := by simp
    rw [hc] at hR
    rcases leaf_cases hm h2 with h | h | h
    · refine G73_num wide h1 hw ws t (by omega) S (by omega) pre.length hi x hx (.inl h) R ?_
      simpa [valS, h] using hR
    · have hv : x.2.toNat < ws.length := by
        simp [leafOk, h] at h3
        rw [BitVec.lt_def, ofI_toNat hl] at h3
        omega
      refine G73_var wide h1 hw ws t (by omega) S (by omega) pre.length hi x hx h hv R ?_
      simpa [valS, h, hv] using hR
    · refine G73_num wide h1 hw ws t (by omega) S (by omega) pre.length hi x hx (.inr h) R ?_
      simpa [valS, h] using hR
  | .un x a, pre, post, S, hg, he, hS, R, hR => by
    obtain ⟨hm, h2, h3, h4, hga⟩ := hg
    simp only [Tr.flat] at he hR
    refine G73_tree wide h1 hw ss hs hl ws hlen hin t ht a pre (x :: post) S hga (by simp [he]) hS R ?_
    have hi : pre.length + a.flat.length < t.length := by simp [he]
    have hx : t[pre.length + a.flat.length] = x := by simp [he]
    have hc : ((pre.length + (a.flat ++ [x]).length : Nat) : Int) = ((pre.length + a.flat.length : Nat) : Int) + 1 := by simp; omega
    rw [hc] at hR
    rcases un_cases hm with h | h
    · refine G73_flip wide h1 hw ws t (by omega) S (by omega) _ hi x hx h _ R ?_
      simpa [valS, h] using hR
    · refine G73_no wide h1 hw ws t (by omega) S (by omega) _ hi x hx h _ R ?_
      simpa [valS, h] using hR
  | .bi x a b, pre, post, S, hg, he, hS, R, hR => by
    obtain ⟨hm, h2, h3, h4, h5, hga, hgb⟩ := hg
    simp only [Tr.flat] at he hR
    have hoa := spanS_ok hw hs hl a hga
    have hob := spanS_ok hw hs hl b hgb
    rw [h4] at hoa
    rw [h5] at hob
    have ia := valS_in h1 hw hs hl hlen hin a hga
    have ib := valS_in h1 hw hs hl hlen hin b hgb
    have h2w := two_le h1
    have hpt : part x.1 = 1 ∨ part x.1 = 2 := by
      rcases bi_cases hm with h | h | h | h
      · left; unfold part; rw [if_pos (by omega)]
      · left; unfold part; rw [if_pos (by omega)]
      · right; simp [part, h]
      · right; simp [part, h]
    have gwv : ∀ {v : BitVec 64} {s : Sp}, okS wide (part x.1) s → inS v s → gw wide v = true := by
      intro v s q1 q2
      refine gw_of h1 hw ?_
      rcases hpt with hp | hp
      · have := q1.2.1 hp; have := q2.2; omega
      · have := q1.2.2 hp; have := q2.2; omega
    refine G73_tree wide h1 hw ss hs hl ws hlen hin t ht a pre (b.flat ++ (x :: post)) S hga (by simp [he]) hS R ?_
    have e1 : ((pre.length + a.flat.length : Nat) : Int) = ((pre ++ a.flat).length : Nat) := by simp
    rw [e1]
    have hp := a.flat_pos
    refine G73_tree wide h1 hw ss hs hl ws hlen hin t ht b (pre ++ a.flat) (x :: post) (S ++ [valS wide ws a]) hgb (by simp [he]) (by simp; omega) R ?_
    have hi : (pre ++ a.flat).length + b.flat.length < t.length := by simp [he]; omega
    have hx : t[(pre ++ a.flat).length + b.flat.length] = x := by simp [he, Nat.add_assoc]
    have hc : ((pre.length + (a.flat ++ (b.flat ++ [x])).length : Nat) : Int) = (((pre ++ a.flat).length + b.flat.length : Nat) : Int) + 1 := by simp; omega
    rw [hc] at hR
    rw [List.append_assoc]
    refine G73_two wide h1 hw ws t (by omega) S (by omega) _ hi x hx hm _ _ (gwv hoa ia) (gwv hob ib) R ?_
    exact hR
end Go.Proofs.YtplgdddfhjpojaaGreat.AM

namespace Go.Proofs.YtplgdddfhjpojaaGreat.AM
open Go

theorem c73 (wide : Nat) (h1 : 1 ≤ wide) (hw : wide ≤ 64) (ss : List Sp) (hs : ∀ s ∈ ss, goodS wide s = true) (hl : ss.length < 1000) (ws : List (BitVec 64)) (hlen : ws.length = ss.length) (hin : within ss ws = true) (r : Tr) (ht : r.flat.length < 1000) (hg : r.good wide ss.length) :
    acall T X 73 [.d (.int .i64 wide), .d (tsl r.flat), .d (wordsD ws)] [] = some (.d (.w (valS wide ws r)), []) := by
  have hend : G73 wide ws r.flat [valS wide ws r] (r.flat.length : Int) = some (.d (.w (valS wide ws r)), []) := by
    unfold G73
    simp [F73_b0, F73_t2]
    simp [fin, F73]
  have hm := G73_tree wide h1 hw ss hs hl ws hlen hin r.flat ht r [] [] [] hg (by simp) (by simp) _ (by simpa using hend)
  unfold G73 at hm
  simp [tsl, wordsD] at hm
  simp [e73, F73_c, tsl, wordsD]
  rw [go_inLoop]
  simp
  exact hm

theorem c1 (a b : List (BitVec 8)) (ha : a.length < 4611686018427387904) (hb : b.length < 4611686018427387904) :
    acall T X 1 [.d (bytesD a), .d (bytesD b)] [] = some (.d (.bool (decide (1048576 < a.length + b.length))), []) := by
  have hw : wr (1048576 - (a.length : Int)) = 1048576 - (a.length : Int) := by rw [wr_id] <;> omega
  by_cases h : (1048576 : Int) < a.length
  · have h2 : 1048576 < a.length + b.length := by omega
    simp [e1, F1_c, bytesD, h]
    simp [fin, F1, h2]
  · have h2 : (1048576 - (a.length : Int) < b.length) ↔ (1048576 < a.length + b.length) := by omega
    simp [e1, F1_c, bytesD, h, hw]
    simp [fin, F1, h2]
end Go.Proofs.YtplgdddfhjpojaaGreat.AM

namespace Go.Proofs.YtplgdddfhjpojaaGreat.AM
open Go

theorem meet_law (wide : Int) (a b : Sp) (h : (meetR wide a b).2 = true) : (joinR wide a b).2 = true ∧ a.1 ≤ (meetR wide a b).1.1 ∧ b.1 ≤ (meetR wide a b).1.1 ∧ (meetR wide a b).1.2 ≤ a.2 ∧ (meetR wide a b).1.2 ≤ b.2 ∧
    (joinR wide a b).1.1 ≤ (meetR wide a b).1.1 ∧ (meetR wide a b).1.2 ≤ (joinR wide a b).1.2 := by
  cases hg : goodS wide a && goodS wide b with
  | false => simp [meetR, hg] at h
  | true =>
    simp only [meetR, hg, if_true] at h
    simp only [meetR, joinR, hg, if_true, true_and]
    have hmt : meets a b = !decide (leastW a.2 b.2 < mostW a.1 b.1) := by unfold meets; rw [minW_eq, maxW_eq]
    have hms : meetS a b = if leastW a.2 b.2 < mostW a.1 b.1 then (0#64, 0#64) else (mostW a.1 b.1, leastW a.2 b.2) := by unfold meetS; rw [minW_eq, maxW_eq]
    rw [hmt] at h
    have h : ¬ leastW a.2 b.2 < mostW a.1 b.1 := by simpa using h
    rw [hms, if_neg h]
    simp only [joinS, BitVec.le_def, leastW_toNat, mostW_toNat]
    omega

end Go.Proofs.YtplgdddfhjpojaaGreat.AM

namespace Go.Proofs.YtplgdddfhjpojaaGreat.AM
open Go

/-- A word out of an interval. -/
def stW (q : BitVec 64) (s : Sp) : BitVec 64 := if s.2 - s.1 < 1000000#64 then s.1 + q % (s.2 - s.1 + 1#64) else s.1 + q % 1000000#64
theorem stW_has (q : BitVec 64) {s : Sp} (h : s.1 ≤ s.2) : hasS s (stW q s) = true := by
  have e := BitVec.toNat_sub_of_le h
  rw [BitVec.le_def] at h
  have h2 := s.2.isLt
  have key : ∀ w : BitVec 64, w.toNat ≤ s.2.toNat - s.1.toNat → hasS s (s.1 + w) = true := by
    intro w hw
    simp only [hasS, Bool.and_eq_true, decide_eq_true_eq, BitVec.le_def, BitVec.toNat_add]
    omega
  unfold stW
  split
  · rename_i hc
    rw [BitVec.lt_def, e] at hc
    simp at hc
    apply key
    have e2 : (s.2 - s.1 + 1#64).toNat = s.2.toNat - s.1.toNat + 1 := by rw [BitVec.toNat_add, e]; simp; omega
    rw [BitVec.toNat_umod, e2]
    have := Nat.mod_lt q.toNat (show 0 < s.2.toNat - s.1.toNat + 1 by omega)
    omega
  · rename_i hc
    rw [BitVec.lt_def, e] at hc
    simp at hc
    apply key
    rw [BitVec.toNat_umod]
    have := Nat.mod_lt q.toNat (show 0 < (1000000#64).toNat by decide)
    simp at this ⊢
    omega

def stL (m : Int) : Nat → List Sp → List (BitVec 64)
  | _, [] => []
  | k, s :: ss => stW (ofI (wr (m.tdiv ((k : Int) + 1)))) s :: stL m (k + 1) ss
theorem stL_len (m : Int) : ∀ (k : Nat) (ss : List Sp), (stL m k ss).length = ss.length
  | _, [] => rfl
  | k, s :: ss => by simp [stL, stL_len m (k + 1) ss]
theorem stL_within (m : Int) : ∀ (k : Nat) (ss : List Sp), (∀ s ∈ ss, s.1 ≤ s.2) → within ss (stL m k ss) = true
  | _, [], _ => rfl
  | k, s :: ss, h => by
    simp only [stL, within, Bool.and_eq_true]
    exact ⟨stW_has _ (h s (by simp)), stL_within m (k + 1) ss fun s hs => h s (by simp [hs])⟩

end Go.Proofs.YtplgdddfhjpojaaGreat.AM

namespace Go.Proofs.YtplgdddfhjpojaaGreat.AM
open Go

theorem Tr.own {wide vars : Int} : ∀ r : Tr, r.good wide vars → ownK r.root.1 ≠ 0
  | .lf _, h => h.2.1
  | .un _ _, h => h.2.1
  | .bi _ _ _, h => h.2.1

theorem spanS_good {wide : Nat} (h1 : 1 ≤ wide) (hw : wide ≤ 64) {ss : List Sp} (hs : ∀ s ∈ ss, goodS wide s = true) (hl : ss.length < 1000) (r : Tr) (hg : r.good wide ss.length) : goodS wide (spanS wide ss r) = true := by
  obtain ⟨o1, o2, o3⟩ := spanS_ok hw hs hl r hg
  have h2 := two_le h1
  simp only [goodS, Bool.and_eq_true, decide_eq_true_eq, BitVec.le_def]
  refine ⟨gw_of h1 hw ?_, o1⟩
  have hk : r.kind = 1 ∨ r.kind = 2 := by
    have := r.own hg
    rcases ownK_cases r.root.1 with q | q | q
    · exact absurd q this
    · exact .inl q
    · exact .inr q
  rcases hk with hk | hk
  · exact o2 hk
  · have := o3 hk; omega

theorem within_gw {wide : Nat} (h1 : 1 ≤ wide) (hw : wide ≤ 64) : ∀ {ss : List Sp} {ws : List (BitVec 64)}, ws.length = ss.length → (∀ s ∈ ss, goodS wide s = true) → within ss ws = true → ws.all (gw wide) = true
  | [], [], _, _, _ => rfl
  | [], _ :: _, h, _, _ => by simp at h
  | _ :: _, [], h, _, _ => by simp at h
  | s :: ss, w :: ws, h, hs, hin => by
    simp only [within, Bool.and_eq_true] at hin
    simp only [List.all_cons, Bool.and_eq_true]
    refine ⟨?_, within_gw h1 hw (by simpa using h) (fun q hq => hs q (by simp [hq])) hin.2⟩
    have g := hs s (by simp)
    simp only [goodS, Bool.and_eq_true] at g
    have hh := hin.1
    simp only [hasS, Bool.and_eq_true, decide_eq_true_eq] at hh
    exact gw_le g.1 hh.2

end Go.Proofs.YtplgdddfhjpojaaGreat.AM

namespace Go.Proofs.YtplgdddfhjpojaaGreat.AM
open Go
end Go.Proofs.YtplgdddfhjpojaaGreat.AM

namespace Go.Proofs.YtplgdddfhjpojaaGreat.AM
open Go

/-- A change: its cells. -/
abbrev Ch := Int × List Nd
def chC (c : Ch) : List D := [.int .i64 c.1, tsl c.2]

/-- A drawn command: its condition, and its changes as an own slice. -/
def CmdO (v : AV) (os : List AO) : Prop := ∃ (t : List Nd) (cs : List Ch), v = .agg [.d (tsl t), .hs 1 2 0 cs.length] ∧ os = [.arr 2 (cs.map chC) true] ∧ t.length ≤ 15 ∧ cs.length ≤ 5 ∧ ∀ c ∈ cs, c.2.length ≤ 3

section
variable (l : List (BitVec 8)) (a : Nat) (s : BitVec 64)

theorem dr_number1 (wide : Nat) (hw : wide < 1000) (vars : Int) (hv : vars < 1000) : Dr 7 [.d (.int .i64 wide), .d (.int .i64 vars), .d (.int .i64 1)] 40 (OwnT 3) :=
  dr_number01 wide hw vars hv 1 (by omega) (by omega)

set_option maxHeartbeats 1000000 in
theorem c84_loop1 (ha : a + 600 < 4611686018427387904) (wide : Nat) (hw : wide < 1000) (vars : Nat) (hv : vars ≤ 5) (t : List Nd) (ht : t.length ≤ 15) : ∀ (n j : Nat) (z : Int) (cs : List Ch) (a' : Nat) (s' : BitVec 64), j + n = vars → z = j → cs.length ≤ j → (∀ c ∈ cs, c.2.length ≤ 3) → a' ≤ a + 362 + 42 * j →
    Ev (go T X F84 1 [.inLoop [(0, .keep), (1, .keep), (2, .keep), (6, .keep), (7, .keep), (8, .keep)] F84_l0, .inBlock 0, .code (.kp [(6, .keep), (7, .keep)] F84_t1)]
      [(0, .ptr 0 0 0 0), (1, .d (.int .i64 wide)), (2, .d (.int .i64 vars)), (6, .ptr 1 0 0 0), (7, .ptr 2 0 0 0), (8, .d (.int .i64 z))]
      [cur l a' s', .box [.d .nil, .d .nil], .box [.hs 3 2 0 t.length, .hs 4 2 0 cs.length], .arr 2 (t.map nodeV) true, .arr 2 (cs.map chC) true]) (DrQ l a 600 CmdO) := by
  intro n
  induction n with
  | zero =>
    intro j z cs a' s' hj hz hc hcs ha'
    subst hz
    obtain rfl : j = vars := by omega
    rw [go_inLoop]
    simp [F84_b0, F84_t1]
    simp [fin, F84]
    exact DrQ.mk (by omega) ⟨t, cs, rfl, rfl, ht, by omega, hcs⟩
  | succ n ih =>
    intro j z cs a' s' hj hz hc hcs ha'
    subst hz
    have h1 : j < vars := by omega
    have hw1 : wr ((j : Int) + 1) = (j : Int) + 1 := by rw [wr_id] <;> omega
    have hm : cs.length + 1 ≤ maxApp := by simp only [maxApp]; omega
    obtain ⟨b, a1, s1, g1, g11⟩ := (dr_one 2 (by omega)).bool l a' s' (by rfl) (by omega)
    cases b
    · have := ih (j + 1) ((j : Int) + 1) cs a1 s1 (by omega) (by simp) (by omega) hcs (by omega)
      rw [go_inLoop]
      simp [F84_b0, h1, g1, F84_t0, hw1]
      exact this
    · obtain ⟨u, a2, s2, g2, g21, g22, g23⟩ := (dr_number1 wide hw vars (by omega)).ownT l a1 s1 (by rfl) (by omega)
      have := ih (j + 1) ((j : Int) + 1) (cs ++ [((j : Int), u)]) a2 s2 (by omega) (by simp) (by simp; omega) (by
        intro c hc'
        rw [List.mem_append] at hc'
        rcases hc' with hc' | hc'
        · exact hcs c hc'
        · simp at hc'; subst hc'; exact g23) (by omega)
      simp [chC, tsl] at this
      rw [go_inLoop]
      simp [F84_b0, h1, g1, g2, hm, F84_t0, hw1]
      exact this

set_option maxHeartbeats 1000000 in
theorem c84_loop0 (ha : a + 600 < 4611686018427387904) (wide : Nat) (hw : wide < 1000) (vars : Nat) (hv : vars ≤ 5) (t : List Nd) (ht : t.length ≤ 15) : ∀ (n j : Nat) (z : Int) (a' : Nat) (s' : BitVec 64), j + n = vars → z = j → a' ≤ a + 362 + 42 * j →
    Ev (go T X F84 1 [.inLoop [(0, .keep), (1, .keep), (2, .keep), (6, .keep), (7, .keep), (8, .keep)] F84_l0, .inBlock 0, .code (.kp [(6, .keep), (7, .keep)] F84_t1)]
      [(0, .ptr 0 0 0 0), (1, .d (.int .i64 wide)), (2, .d (.int .i64 vars)), (6, .ptr 1 0 0 0), (7, .ptr 2 0 0 0), (8, .d (.int .i64 z))]
      [cur l a' s', .box [.d .nil, .d .nil], .box [.hs 3 2 0 t.length, .d .nil], .arr 2 (t.map nodeV) true]) (DrQ l a 600 CmdO) := by
  intro n
  induction n with
  | zero =>
    intro j z a' s' hj hz ha'
    subst hz
    obtain rfl : j = vars := by omega
    rw [go_inLoop]
    simp [F84_b0, F84_t1]
    simp [fin, F84]
    exact DrQ.mk (by omega) ⟨t, [], rfl, rfl, ht, by simp, by simp⟩
  | succ n ih =>
    intro j z a' s' hj hz ha'
    subst hz
    have h1 : j < vars := by omega
    have hw1 : wr ((j : Int) + 1) = (j : Int) + 1 := by rw [wr_id] <;> omega
    have hm : 1 ≤ maxApp := by simp only [maxApp]; omega
    obtain ⟨b, a1, s1, g1, g11⟩ := (dr_one 2 (by omega)).bool l a' s' (by rfl) (by omega)
    cases b
    · have := ih (j + 1) ((j : Int) + 1) a1 s1 (by omega) (by simp) (by omega)
      rw [go_inLoop]
      simp [F84_b0, h1, g1, F84_t0, hw1]
      exact this
    · obtain ⟨u, a2, s2, g2, g21, g22, g23⟩ := (dr_number1 wide hw vars (by omega)).ownT l a1 s1 (by rfl) (by omega)
      have := c84_loop1 l a ha wide hw vars hv t ht n (j + 1) ((j : Int) + 1) [((j : Int), u)] a2 s2 (by omega) (by simp) (by simp) (by simpa using g23) (by omega)
      simp [chC, tsl] at this
      rw [go_inLoop]
      simp [F84_b0, h1, g1, g2, hm, F84_t0, hw1]
      exact this

theorem dr_asked01 (wide : Nat) (hw : wide < 1000) (vars : Int) (hv : vars < 1000) (n : Int) (h0 : 0 ≤ n) (h1 : n < 2) : Dr 8 [.d (.int .i64 wide), .d (.int .i64 vars), .d (.int .i64 n)] 360 (OwnT 15) := by
  obtain ⟨k, rfl⟩ : ∃ k : Nat, n = k := ⟨n.toNat, by omega⟩
  have hk : k = 0 ∨ k = 1 := by omega
  rcases hk with rfl | rfl
  · exact (dr_asked wide hw vars hv 0 (by omega)).weaken (by simp [askK]) (fun _ _ => OwnT.le (by simp [askL]))
  · exact (dr_asked wide hw vars hv 1 (by omega)).weaken (by simp [askK]) (fun _ _ => OwnT.le (by simp [askL]))

theorem dr_command (wide : Nat) (hw : wide < 1000) (vars : Nat) (hv : vars ≤ 5) : Dr 84 [.d (.int .i64 wide), .d (.int .i64 vars)] 600 CmdO := by
  intro l a s ha
  obtain ⟨n, a1, s1, g1, g11, g12, g13⟩ := (dr_pick 2 (by omega)).num l a s (by rfl) (by omega)
  obtain ⟨t, a2, s2, g2, g21, g22, g23⟩ := (dr_asked01 wide hw vars (by omega) n g12 (by omega)).ownT l a1 s1 (by rfl) (by omega)
  have := c84_loop0 l a ha wide hw vars hv t g23 vars 0 0 a2 s2 (by omega) rfl (by omega)
  rw [go_inLoop] at this
  simp at this
  simp [e84, F84_c, g1, g2]
  rw [go_inLoop]
  simp
  exact this
end
end Go.Proofs.YtplgdddfhjpojaaGreat.AM

namespace Go.Proofs.YtplgdddfhjpojaaGreat.AM
open Go

theorem Dr.cmd {f : Nat} {as : List AV} {k : Nat} (h : Dr f as k CmdO) (l : List (BitVec 8)) (a : Nat) (s : BitVec 64) (hp : plainL as = true) (hb : a + k < 4611686018427387904) :
    ∃ (t : List Nd) (cs : List Ch) (a' : Nat) (s' : BitVec 64), (∀ (st : St) (k : Nat), st[k]? = some (cur l a s) → mcall (acall T X) false [] f (.ptr k 0 0 0 :: as) st = some (.agg [.d (tsl t), .hs st.length 2 0 cs.length], st.set k (cur l a' s') ++ [.arr 2 (cs.map chC) true])) ∧ a' ≤ a + k ∧
      t.length ≤ 15 ∧ cs.length ≤ 5 ∧ ∀ c ∈ cs, c.2.length ≤ 3 := by
  obtain ⟨v, a', s', os, h1, h2, t, cs, rfl, rfl, h3, h4, h5⟩ := h.get l a s hb
  exact ⟨t, cs, a', s', fun st k hk => by rw [mcall_cur l a s st h1 hp hk]; simp, h2, h3, h4, h5⟩

/-- A command: its condition and its changes. -/
abbrev Cmd := List Nd × List Ch
def cmdOk (c : Cmd) : Prop := c.1.length ≤ 15 ∧ c.2.length ≤ 5 ∧ ∀ x ∈ c.2, x.2.length ≤ 3
/-- Commands' cells, their changes at handles from j on. -/
def cmdCells : Nat → List Cmd → List AV
  | _, [] => []
  | j, c :: cs => .d (tsl c.1) :: .hs j 2 0 c.2.length :: cmdCells (j + 1) cs
def chArrs (cs : List Cmd) : List AO := cs.map fun c => .arr 2 (c.2.map chC) true

/-- A drawn program whose commands are its own. -/
def ProgO (wide vars : Int) (v : AV) (os : List AO) : Prop := ∃ (t : List Nd) (cs : List Cmd), v = .agg [.d (.int .i64 wide), .d (.int .i64 vars), .d (tsl t), .hs 1 2 0 cs.length] ∧ os = .box (cmdCells 2 cs) :: chArrs cs ∧ t.length ≤ 15 ∧ 1 ≤ cs.length ∧ cs.length ≤ 3 ∧ ∀ c ∈ cs, cmdOk c

section
variable (l : List (BitVec 8)) (a : Nat) (s : BitVec 64)

/-- The loop over the commands. -/
noncomputable def G85 (l : List (BitVec 8)) (wide vars : Nat) (t : List Nd) (a' : Nat) (s' : BitVec 64) (n : Int) (cm : AV) (rest : List AO) : Option (AV × St) :=
  go T X F85 1 [.inLoop [(0, .keep), (1, .keep), (2, .keep), (6, .keep), (7, .keep), (8, .keep)] F85_l0, .inBlock 0, .code (.kp [(6, .keep), (7, .keep)] F85_t0)]
    [(0, .ptr 0 0 0 0), (1, .d (.int .i64 wide)), (2, .d (.int .i64 vars)), (6, .ptr 1 0 0 0), (7, .ptr 2 0 0 0), (8, .d (.int .i64 n))]
    ([cur l a' s', .box [.d (.int .i64 0), .d (.int .i64 0), .d .nil, .d .nil], .box [.d (.int .i64 wide), .d (.int .i64 vars), .hs 3 2 0 t.length, cm], .arr 2 (t.map nodeV) true] ++ rest)

theorem G85_end1 (wide vars : Nat) (t : List Nd) (c1 : Cmd) : G85 l wide vars t a s 0 (.hs 4 2 0 1) [.box (cmdCells 5 [c1]), .arr 2 (c1.2.map chC) true] =
    some (.agg [.d (.int .i64 wide), .d (.int .i64 vars), .d (tsl t), .hs 1 2 0 1], cur l a s :: .box (cmdCells 2 [c1]) :: chArrs [c1]) := by
  unfold G85
  rw [go_inLoop]
  simp [cmdCells, F85_b0, F85_t0]
  simp [fin, F85, chArrs, tsl]
theorem G85_end2 (wide vars : Nat) (t : List Nd) (c1 c2 : Cmd) : G85 l wide vars t a s 0 (.hs 4 2 0 2) [.box (cmdCells 5 [c1, c2]), .arr 2 (c1.2.map chC) true, .arr 2 (c2.2.map chC) true] =
    some (.agg [.d (.int .i64 wide), .d (.int .i64 vars), .d (tsl t), .hs 1 2 0 2], cur l a s :: .box (cmdCells 2 [c1, c2]) :: chArrs [c1, c2]) := by
  unfold G85
  rw [go_inLoop]
  simp [cmdCells, F85_b0, F85_t0]
  simp [fin, F85, chArrs, tsl]
theorem G85_end3 (wide vars : Nat) (t : List Nd) (c1 c2 c3 : Cmd) : G85 l wide vars t a s 0 (.hs 4 2 0 3) [.box (cmdCells 5 [c1, c2, c3]), .arr 2 (c1.2.map chC) true, .arr 2 (c2.2.map chC) true, .arr 2 (c3.2.map chC) true] =
    some (.agg [.d (.int .i64 wide), .d (.int .i64 vars), .d (tsl t), .hs 1 2 0 3], cur l a s :: .box (cmdCells 2 [c1, c2, c3]) :: chArrs [c1, c2, c3]) := by
  unfold G85
  rw [go_inLoop]
  simp [cmdCells, F85_b0, F85_t0]
  simp [fin, F85, chArrs, tsl]

theorem G85_step0 (ha : a + 600 < 4611686018427387904) (wide : Nat) (hw : wide < 1000) (vars : Nat) (hv : vars ≤ 5) (t : List Nd) (n : Int) (hn : 0 < n) (hn2 : n < 10) : ∃ (c : Cmd) (a' : Nat) (s' : BitVec 64), cmdOk c ∧ a' ≤ a + 600 ∧
    ∀ R, G85 l wide vars t a' s' (n - 1) (.hs 4 2 0 1) [.box (cmdCells 5 [c]), .arr 2 (c.2.map chC) true] = R → G85 l wide vars t a s n (.d .nil) [] = R := by
  obtain ⟨u, cs, a1, s1, g1, g11, g12, g13, g14⟩ := (dr_command wide hw vars hv).cmd l a s (by rfl) (by omega)
  refine ⟨(u, cs), a1, s1, ⟨g12, g13, g14⟩, g11, fun R hR => ?_⟩
  have hw1 : wr (n - 1) = n - 1 := by rw [wr_id] <;> omega
  have hm : 1 ≤ maxApp := by simp only [maxApp]; omega
  unfold G85 at hR ⊢
  rw [go_inLoop] at hR
  simp [cmdCells, tsl] at hR
  rw [go_inLoop]
  simp [F85_b0, hn, g1, hm, hw1, tsl]
  rw [go_inLoop]
  simp
  exact hR
theorem G85_step1 (ha : a + 600 < 4611686018427387904) (wide : Nat) (hw : wide < 1000) (vars : Nat) (hv : vars ≤ 5) (t : List Nd) (n : Int) (hn : 0 < n) (hn2 : n < 10) (c1 : Cmd) : ∃ (c : Cmd) (a' : Nat) (s' : BitVec 64), cmdOk c ∧ a' ≤ a + 600 ∧
    ∀ R, G85 l wide vars t a' s' (n - 1) (.hs 4 2 0 2) [.box (cmdCells 5 [c1, c]), .arr 2 (c1.2.map chC) true, .arr 2 (c.2.map chC) true] = R → G85 l wide vars t a s n (.hs 4 2 0 1) [.box (cmdCells 5 [c1]), .arr 2 (c1.2.map chC) true] = R := by
  obtain ⟨u, cs, a1, s1, g1, g11, g12, g13, g14⟩ := (dr_command wide hw vars hv).cmd l a s (by rfl) (by omega)
  refine ⟨(u, cs), a1, s1, ⟨g12, g13, g14⟩, g11, fun R hR => ?_⟩
  have hw1 : wr (n - 1) = n - 1 := by rw [wr_id] <;> omega
  have hm : 2 ≤ maxApp := by simp only [maxApp]; omega
  unfold G85 at hR ⊢
  rw [go_inLoop] at hR
  simp [cmdCells, tsl] at hR
  rw [go_inLoop]
  simp [cmdCells, F85_b0, hn, g1, hm, hw1, tsl]
  rw [go_inLoop]
  simp
  exact hR
theorem G85_step2 (ha : a + 600 < 4611686018427387904) (wide : Nat) (hw : wide < 1000) (vars : Nat) (hv : vars ≤ 5) (t : List Nd) (n : Int) (hn : 0 < n) (hn2 : n < 10) (c1 c2 : Cmd) : ∃ (c : Cmd) (a' : Nat) (s' : BitVec 64), cmdOk c ∧ a' ≤ a + 600 ∧
    ∀ R, G85 l wide vars t a' s' (n - 1) (.hs 4 2 0 3) [.box (cmdCells 5 [c1, c2, c]), .arr 2 (c1.2.map chC) true, .arr 2 (c2.2.map chC) true, .arr 2 (c.2.map chC) true] = R →
      G85 l wide vars t a s n (.hs 4 2 0 2) [.box (cmdCells 5 [c1, c2]), .arr 2 (c1.2.map chC) true, .arr 2 (c2.2.map chC) true] = R := by
  obtain ⟨u, cs, a1, s1, g1, g11, g12, g13, g14⟩ := (dr_command wide hw vars hv).cmd l a s (by rfl) (by omega)
  refine ⟨(u, cs), a1, s1, ⟨g12, g13, g14⟩, g11, fun R hR => ?_⟩
  have hw1 : wr (n - 1) = n - 1 := by rw [wr_id] <;> omega
  have hm : 3 ≤ maxApp := by simp only [maxApp]; omega
  unfold G85 at hR ⊢
  rw [go_inLoop] at hR
  simp [cmdCells, tsl] at hR
  rw [go_inLoop]
  simp [cmdCells, F85_b0, hn, g1, hm, hw1, tsl]
  rw [go_inLoop]
  simp
  exact hR
end

theorem dr_progOf (wide : Nat) (hw : wide < 1000) (vars : Nat) (hv : vars ≤ 5) : Dr 85 [.d (.int .i64 wide), .d (.int .i64 vars)] 2200 (ProgO wide vars) := by
  intro l a s ha
  have loop : ∀ (t : List Nd) (a' : Nat) (s' : BitVec 64) (n : Int), t.length ≤ 15 → 0 ≤ n → n < 3 → a' ≤ a + 368 → Ev (G85 l wide vars t a' s' (1 + n) (.d .nil) []) (DrQ l a 2200 (ProgO wide vars)) := by
    intro t a' s' n ht h0 h1 ha'
    obtain ⟨c1, a1, s1, k1, k11, k12⟩ := G85_step0 l a' s' (by omega) wide hw vars hv t (1 + n) (by omega) (by omega)
    rcases (by omega : n = 0 ∨ n = 1 ∨ n = 2) with rfl | rfl | rfl
    · rw [k12 _ (G85_end1 l a1 s1 wide vars t c1)]
      exact ⟨_, rfl, DrQ.mk (by omega) ⟨t, [c1], rfl, rfl, ht, by simp, by simp, by simpa using k1⟩⟩
    · obtain ⟨c2, a2, s2, k2, k21, k22⟩ := G85_step1 l a1 s1 (by omega) wide hw vars hv t 1 (by omega) (by omega) c1
      rw [k12 _ (k22 _ (G85_end2 l a2 s2 wide vars t c1 c2))]
      exact ⟨_, rfl, DrQ.mk (by omega) ⟨t, [c1, c2], rfl, rfl, ht, by simp, by simp, by simpa using ⟨k1, k2⟩⟩⟩
    · obtain ⟨c2, a2, s2, k2, k21, k22⟩ := G85_step1 l a1 s1 (by omega) wide hw vars hv t 2 (by omega) (by omega) c1
      obtain ⟨c3, a3, s3, k3, k31, k32⟩ := G85_step2 l a2 s2 (by omega) wide hw vars hv t 1 (by omega) (by omega) c1 c2
      rw [k12 _ (k22 _ (k32 _ (G85_end3 l a3 s3 wide vars t c1 c2 c3)))]
      exact ⟨_, rfl, DrQ.mk (by omega) ⟨t, [c1, c2, c3], rfl, rfl, ht, by simp, by simp, by simpa using ⟨k1, k2, k3⟩⟩⟩
  obtain ⟨x, a1, s1, g1, g11, g12, g13⟩ := (dr_pick 2 (by omega)).num l a s (by rfl) (by omega)
  obtain ⟨b, a2, s2, g2, g21⟩ := (dr_one 3 (by omega)).bool l a1 s1 (by rfl) (by omega)
  cases b
  · obtain ⟨y, a3, s3, g3, g31, g32, g33⟩ := (dr_pick 3 (by omega)).num l a2 s2 (by rfl) (by omega)
    have hw1 : wr (1 + y) = 1 + y := by rw [wr_id] <;> omega
    have := loop [(2, 0#64), (1, ofI x), (14, 0#64)] a3 s3 y (by simp) g32 (by omega) (by omega)
    unfold G85 at this
    rw [go_inLoop] at this
    simp [nodeV, node] at this
    simp [e85, F85_c, g1, g2, F85_t1, g3, hw1]
    rw [go_inLoop]
    simp
    exact this
  · obtain ⟨t, a3, s3, g3, g31, g32, g33⟩ := (dr_asked01 wide hw vars (by omega) 1 (by omega) (by omega)).ownT l a2 s2 (by rfl) (by omega)
    obtain ⟨y, a4, s4, g4, g41, g42, g43⟩ := (dr_pick 3 (by omega)).num l a3 s3 (by rfl) (by omega)
    have hw1 : wr (1 + y) = 1 + y := by rw [wr_id] <;> omega
    have := loop t a4 s4 y g33 g42 (by omega) (by omega)
    unfold G85 at this
    rw [go_inLoop] at this
    simp at this
    simp [e85, F85_c, g1, g2, F85_t1, g3, g4, hw1]
    rw [go_inLoop]
    simp
    exact this
end Go.Proofs.YtplgdddfhjpojaaGreat.AM

namespace Go.Proofs.YtplgdddfhjpojaaGreat.AM
open Go

/-- A program. -/
structure Pg where
  wide : Int
  vars : Int
  start : List Nd
  cmds : List Cmd
def chsl (cs : List Ch) : D := .sl (cs.map chC)
def cmdC (c : Cmd) : List D := [tsl c.1, chsl c.2]
def cmdsl (cs : List Cmd) : D := .sl (cs.map cmdC)
def progV (p : Pg) : AV := .agg [.d (.int .i64 p.wide), .d (.int .i64 p.vars), .d (tsl p.start), .d (cmdsl p.cmds)]
/-- Small enough to be walked. -/
def cmdFit (c : Cmd) : Prop := c.1.length ≤ 15 ∧ c.2.length ≤ 6 ∧ ∀ x ∈ c.2, x.2.length ≤ 3
structure Pg.fit (p : Pg) : Prop where
  w0 : 0 ≤ p.wide
  w1 : p.wide ≤ 64
  v0 : 0 ≤ p.vars
  v1 : p.vars ≤ 5
  st : p.start.length ≤ 15
  cm : p.cmds.length ≤ 3
  cs : ∀ c ∈ p.cmds, cmdFit c
def IsProg (v : AV) (os : List AO) : Prop := ∃ p : Pg, v = progV p ∧ p.fit ∧ os = []

theorem ren_cells (c b : Nat) : ∀ (j : Nat) (cs : List Cmd), renL (back [c] b) (cmdCells (j + 1) cs) = cmdCells (b + j) cs
  | j, [] => rfl
  | j, x :: cs => by
    have h : back [c] b (j + 1) = some (b + j) := by simp [back]
    simp only [cmdCells, renL, ren, h, ren_cells c b (j + 1) cs]
    rw [Nat.add_assoc]
theorem ren_arrs (g : Nat → Option Nat) : ∀ cs : List Cmd, renS g (chArrs cs) = chArrs cs
  | [] => rfl
  | c :: cs => by simp only [chArrs, List.map_cons, renS, renO]; rw [← chArrs, ren_arrs g cs]

theorem Dr.progO {f : Nat} {as : List AV} {k : Nat} {wide vars : Int} (h : Dr f as k (ProgO wide vars)) (l : List (BitVec 8)) (a : Nat) (s : BitVec 64) (hp : plainL as = true) (hb : a + k < 4611686018427387904) :
    ∃ (t : List Nd) (cs : List Cmd) (a' : Nat) (s' : BitVec 64), (∀ (st : St) (k : Nat), st[k]? = some (cur l a s) → mcall (acall T X) false [] f (.ptr k 0 0 0 :: as) st =
      some (.agg [.d (.int .i64 wide), .d (.int .i64 vars), .d (tsl t), .hs st.length 2 0 cs.length], st.set k (cur l a' s') ++ (.box (cmdCells (st.length + 1) cs) :: chArrs cs))) ∧ a' ≤ a + k ∧
      t.length ≤ 15 ∧ 1 ≤ cs.length ∧ cs.length ≤ 3 ∧ ∀ c ∈ cs, cmdOk c := by
  obtain ⟨v, a', s', os, h1, h2, t, cs, rfl, rfl, h3, h4, h5, h6⟩ := h.get l a s hb
  refine ⟨t, cs, a', s', fun st k hk => ?_, h2, h3, h4, h5, h6⟩
  rw [mcall_cur l a s st h1 hp hk]
  simp [ren_cells k st.length 1, ren_arrs]

theorem three {α : Type} {cs : List α} (h1 : 1 ≤ cs.length) (h2 : cs.length ≤ 3) : (∃ a, cs = [a]) ∨ (∃ a b, cs = [a, b]) ∨ ∃ a b c, cs = [a, b, c] := by
  match cs, h1, h2 with
  | [a], _, _ => exact .inl ⟨a, rfl⟩
  | [a, b], _, _ => exact .inr (.inl ⟨a, b, rfl⟩)
  | [a, b, c], _, _ => exact .inr (.inr ⟨a, b, c, rfl⟩)

theorem cmdOk.fit {c : Cmd} (h : cmdOk c) : cmdFit c := ⟨h.1, by have := h.2.1; omega, h.2.2⟩

section
variable (l : List (BitVec 8)) (a : Nat) (s : BitVec 64)

theorem c86_loop (wide : Nat) (hw : wide ≤ 4) (K : List AT) : ∀ v : Nat, v ≤ 6 → ∃ v' : Nat, v' ≤ 4 ∧ ∀ (a' : Nat) (s' : BitVec 64) (R : Option (AV × St)),
    go T X F86 1 K [(0, .ptr 0 0 0 0), (2, .ptr 1 0 0 0), (3, .d (.int .i64 wide)), (4, .d (.int .i64 v')), (24, .d (.bool false))] [cur l a' s', .box [.d (.int .i64 0), .d (.int .i64 0), .d .nil, .d .nil]] = R →
    go T X F86 1 (.inLoop [(0, .keep), (2, .keep), (3, .keep), (4, .keep)] F86_l0 :: .inBlock 0 :: K) [(0, .ptr 0 0 0 0), (2, .ptr 1 0 0 0), (3, .d (.int .i64 wide)), (4, .d (.int .i64 v))] [cur l a' s', .box [.d (.int .i64 0), .d (.int .i64 0), .d .nil, .d .nil]] = R := by
  intro v
  induction v with
  | zero =>
    intro _
    refine ⟨0, by omega, fun a' s' R hR => ?_⟩
    rw [go_inLoop]
    simp at hR
    simp [F86_b0, show wr 0 = 0 from rfl]
    exact hR
  | succ v ih =>
    intro hv
    obtain ⟨v', h1, h2⟩ := ih (by omega)
    have hwv : wr ((wide : Int) * ((v : Int) + 1)) = (wide : Int) * ((v : Int) + 1) := by
      have : (wide : Int) * ((v : Int) + 1) ≤ 4 * ((v : Int) + 1) := Int.mul_le_mul_of_nonneg_right (by omega) (by omega)
      have : 0 ≤ (wide : Int) * ((v : Int) + 1) := Int.mul_nonneg (by omega) (by omega)
      rw [wr_id] <;> omega
    have hw1 : wr (v : Int) = v := by rw [wr_id] <;> omega
    by_cases c1 : 5 < (wide : Int) * ((v : Int) + 1)
    · refine ⟨v', h1, fun a' s' R hR => ?_⟩
      have := h2 a' s' R hR
      rw [go_inLoop]
      simp [F86_b0, hwv, c1, hw1]
      exact this
    · by_cases c2 : 4 < (v : Int) + 1
      · refine ⟨v', h1, fun a' s' R hR => ?_⟩
        have := h2 a' s' R hR
        rw [go_inLoop]
        simp [F86_b0, hwv, c1, c2, hw1]
        exact this
      · refine ⟨v + 1, by omega, fun a' s' R hR => ?_⟩
        rw [go_inLoop]
        simp at hR
        simp [F86_b0, hwv, c1, c2]
        exact hR
end
end Go.Proofs.YtplgdddfhjpojaaGreat.AM

namespace Go.Proofs.YtplgdddfhjpojaaGreat.AM
open Go

theorem cmdFit_when {c : Cmd} (h : cmdOk c) {t : List Nd} (ht : t.length ≤ 15) : cmdFit (t, c.2) := ⟨ht, by have := h.2.1; simp; omega, h.2.2⟩
theorem cmdFit_more {c : Cmd} (h : cmdOk c) {x : Ch} (hx : x.2.length ≤ 3) : cmdFit (c.1, c.2 ++ [x]) := ⟨h.1, by have := h.2.1; simp; omega, fun y hy => by
  rw [List.mem_append] at hy
  rcases hy with hy | hy
  · exact h.2.2 y hy
  · simp at hy; subst hy; exact hx⟩

section
variable (l : List (BitVec 8)) (a : Nat) (s : BitVec 64)

/-- The state behind the loop. -/
noncomputable def G86 (l : List (BitVec 8)) (wide vars : Nat) (a' : Nat) (s' : BitVec 64) : Option (AV × St) :=
  go T X F86 1 [.code F86_t1] [(0, .ptr 0 0 0 0), (2, .ptr 1 0 0 0), (3, .d (.int .i64 wide)), (4, .d (.int .i64 vars))] [cur l a' s', .box [.d (.int .i64 0), .d (.int .i64 0), .d .nil, .d .nil]]

/-- What the switch does to a program. -/
inductive Turned (p : Pg) : Pg → Prop
  | vars (n : Int) (h0 : 0 ≤ n) (h1 : n ≤ 5) : Turned p { p with vars := n }
  | none : Turned p { p with cmds := [] }
  | when (c : Cmd) (cs : List Cmd) (h : p.cmds = c :: cs) : Turned p { p with cmds := ([(1, 0#64)], c.2) :: cs }
  | more (c : Cmd) (cs : List Cmd) (h : p.cmds = c :: cs) : Turned p { p with cmds := (c.1, c.2 ++ [(0, [(1, 0#64)])]) :: cs }
  | same : Turned p p

theorem Turned.fit {p q : Pg} (h : Turned p q) (hf : p.fit) (hc : ∀ c ∈ p.cmds, cmdOk c) : q.fit := by
  obtain ⟨w0, w1, v0, v1, st, cm, cs⟩ := hf
  cases h with
  | vars n h0 h1 => exact ⟨w0, w1, h0, h1, st, cm, cs⟩
  | none => exact ⟨w0, w1, v0, v1, st, by simp, by simp⟩
  | «when» c ds hp =>
    refine ⟨w0, w1, v0, v1, st, by rw [hp] at cm; simpa using cm, fun x hx => ?_⟩
    simp at hx
    rcases hx with rfl | hx
    · exact cmdFit_when (hc c (by simp [hp])) (by simp)
    · exact cs x (by simp [hp, hx])
  | more c ds hp =>
    refine ⟨w0, w1, v0, v1, st, by rw [hp] at cm; simpa using cm, fun x hx => ?_⟩
    simp at hx
    rcases hx with rfl | hx
    · exact cmdFit_more (hc c (by simp [hp])) (by simp)
    · exact cs x (by simp [hp, hx])
  | same => exact ⟨w0, w1, v0, v1, st, cm, cs⟩

set_option maxHeartbeats 4000000 in
theorem c86_t1 (ha : a + 2300 < 4611686018427387904) (wide : Nat) (hw : wide ≤ 4) (vars : Nat) (hv : vars ≤ 4) : Ev (G86 l wide vars a s) (DrQ l a 2300 IsProg) := by
  obtain ⟨t, cs, a1, s1, g1, g11, g12, g13, g14, g15⟩ := (dr_progOf wide (by omega) vars (by omega)).progO l a s (by rfl) (by omega)
  obtain ⟨x, a2, s2, g2, g21, g22, g23⟩ := (dr_pick 40 (by omega)).num l a1 s1 (by rfl) (by omega)
  have hf : (Pg.mk wide vars t cs).fit := ⟨by simp, by simp; omega, by simp, by simp; omega, g12, g14, fun c hc => (g15 c hc).fit⟩
  have fin' : ∀ (a' : Nat) (s' : BitVec 64) (q : Pg) (R : Option (AV × St)), a' ≤ a2 + 2 → Turned ⟨wide, vars, t, cs⟩ q → R = some (progV q, [cur l a' s']) → Ev R (DrQ l a 2300 IsProg) := by
    intro a' s' q R h1 h2 h3
    rw [h3]
    exact ⟨_, rfl, DrQ.mk (by omega) ⟨q, rfl, h2.fit hf g15, rfl⟩⟩
  have hm : ∀ c ∈ cs, c.2.length + 1 ≤ maxApp := fun c hc => by have := (g15 c hc).2.1; simp only [maxApp]; omega
  by_cases q0 : x = 0
  · obtain ⟨n, a3, s3, g3, g31, g32⟩ := dr_among l a2 s2 [0, 4, 5] (by simp) (by simp) (by omega)
    simp only [ints, List.map] at g3
    have hn : 0 ≤ n ∧ n ≤ 5 := by simp at g32; omega
    refine fin' a3 s3 { wide := wide, vars := n, start := t, cmds := cs } _ g31 (.vars n hn.1 hn.2) ?_
    unfold G86
    rcases three g13 g14 with ⟨c1, rfl⟩ | ⟨c1, c2, rfl⟩ | ⟨c1, c2, c3, rfl⟩ <;>
    · simp only [chArrs, List.map_cons, List.map_nil, List.length_cons, List.length_nil, cmdCells, tsl] at g1
      simp [F86_t1, g1, g2, q0, g3, F86_t0]
      simp [fin, F86, progV, cmdsl, cmdC, chsl, tsl]
  by_cases q1 : x = 1
  · refine fin' a2 s2 { wide := wide, vars := vars, start := t, cmds := [] } _ (by omega) .none ?_
    unfold G86
    rcases three g13 g14 with ⟨c1, rfl⟩ | ⟨c1, c2, rfl⟩ | ⟨c1, c2, c3, rfl⟩ <;>
    · simp only [chArrs, List.map_cons, List.map_nil, List.length_cons, List.length_nil, cmdCells, tsl] at g1
      simp [F86_t1, g1, g2, q1, F86_t0]
      simp [fin, F86, progV, cmdsl, cmdC, chsl, tsl]
  by_cases q2 : x = 2
  · unfold G86
    rcases three g13 g14 with ⟨c1, rfl⟩ | ⟨c1, c2, rfl⟩ | ⟨c1, c2, c3, rfl⟩
    all_goals
      refine fin' a2 s2 _ _ (by omega) (.when c1 _ rfl) ?_
      simp only [chArrs, List.map_cons, List.map_nil, List.length_cons, List.length_nil, cmdCells, tsl] at g1
      simp [F86_t1, g1, g2, q2, F86_t0]
      simp [fin, F86, progV, cmdsl, cmdC, chsl, tsl, nodeV, node]
  by_cases q3 : x = 3
  · unfold G86
    rcases three g13 g14 with ⟨c1, rfl⟩ | ⟨c1, c2, rfl⟩ | ⟨c1, c2, c3, rfl⟩
    all_goals
      refine fin' a2 s2 _ _ (by omega) (.more c1 _ rfl) ?_
      have hm1 := hm c1 (by simp)
      simp only [chArrs, List.map_cons, List.map_nil, List.length_cons, List.length_nil, cmdCells, tsl] at g1
      simp [F86_t1, g1, g2, q3, F86_t0, hm1]
      simp [fin, F86, progV, cmdsl, cmdC, chsl, tsl, nodeV, node, chC]
  refine fin' a2 s2 _ _ (by omega) .same ?_
  unfold G86
  rcases three g13 g14 with ⟨c1, rfl⟩ | ⟨c1, c2, rfl⟩ | ⟨c1, c2, c3, rfl⟩ <;>
  · simp only [chArrs, List.map_cons, List.map_nil, List.length_cons, List.length_nil, cmdCells, tsl] at g1
    simp [F86_t1, g1, g2, q0, q1, q2, q3, F86_t0]
    simp [fin, F86, progV, cmdsl, cmdC, chsl, tsl]
end
end Go.Proofs.YtplgdddfhjpojaaGreat.AM

namespace Go.Proofs.YtplgdddfhjpojaaGreat.AM
open Go

theorem dr_small : Dr 86 [] 2310 IsProg := by
  intro l a s ha
  obtain ⟨n, a1, s1, g1, g11, g12⟩ := dr_among l a s [1, 2, 2, 2, 3, 4] (by simp) (by simp) (by omega)
  simp only [ints, List.map] at g1
  obtain ⟨wide, rfl⟩ : ∃ k : Nat, n = k := ⟨n.toNat, by simp at g12; omega⟩
  have hw : 1 ≤ wide ∧ wide ≤ 4 := by simp at g12; omega
  have tail : ∀ (v : Nat) (a' : Nat) (s' : BitVec 64), v ≤ 6 → a' ≤ a + 4 → Ev (go T X F86 1 [.code F86_t2] [(0, .ptr 0 0 0 0), (2, .ptr 1 0 0 0), (3, .d (.int .i64 wide)), (4, .d (.int .i64 v))] [cur l a' s', .box [.d (.int .i64 0), .d (.int .i64 0), .d .nil, .d .nil]]) (DrQ l a 2310 IsProg) := by
    intro v a' s' hv ha'
    obtain ⟨v', hv', hl⟩ := c86_loop l wide hw.2 [.code (.kp [(0, .keep), (2, .keep), (3, .keep), (4, .keep)] F86_t1)] v hv
    have hk := c86_t1 l a' s' (by omega) wide hw.2 v' hv'
    obtain ⟨r, hr, q⟩ := hk
    refine ⟨r, ?_, ?_⟩
    · have := hl a' s' (some r) (by unfold G86 at hr; simp; exact hr)
      simp [F86_t2]
      exact this
    · obtain ⟨v0, a2, s2, os, rfl, h2, h3⟩ := q
      exact DrQ.mk (by omega) h3
  by_cases h3 : wide < 3
  · have hq : (6 : Int).tdiv (wide : Int) = 6 ∨ (6 : Int).tdiv (wide : Int) = 3 := by
      rcases (by omega : wide = 1 ∨ wide = 2) with rfl | rfl
      · left; rfl
      · right; rfl
    obtain ⟨x, a2, s2, g2, g21, g22, g23⟩ := (dr_pick ((6 : Int).tdiv (wide : Int)) (by omega)).num l a1 s1 (by rfl) (by omega)
    obtain ⟨k, rfl⟩ : ∃ k : Nat, x = k := ⟨x.toNat, by omega⟩
    have hwq : wr ((6 : Int).tdiv (wide : Int)) = (6 : Int).tdiv (wide : Int) := by rw [wr_id] <;> omega
    have hw1 : wr (1 + (k : Int)) = 1 + (k : Int) := by rw [wr_id] <;> omega
    have hn0 : ¬ wide = 0 := by omega
    have h3' : (wide : Int) < 3 := by omega
    have := tail (1 + k) a2 s2 (by omega) (by omega)
    simp at this
    simp [e86, F86_c, g1, h3', hn0, hwq, g2, hw1]
    exact this
  · have h3' : ¬ (wide : Int) < 3 := by omega
    have := tail 1 a1 s1 (by omega) (by omega)
    simp at this
    simp [e86, F86_c, g1, h3']
    exact this

theorem Dr.prog {f : Nat} {as : List AV} {k : Nat} (h : Dr f as k IsProg) (l : List (BitVec 8)) (a : Nat) (s : BitVec 64) (hp : plainL as = true) (hb : a + k < 4611686018427387904) :
    ∃ (p : Pg) (a' : Nat) (s' : BitVec 64), (∀ (st : St) (k : Nat), st[k]? = some (cur l a s) → mcall (acall T X) false [] f (.ptr k 0 0 0 :: as) st = some (progV p, st.set k (cur l a' s'))) ∧ a' ≤ a + k ∧ p.fit := by
  obtain ⟨v, a', s', os, h1, h2, p, rfl, h3, rfl⟩ := h.get l a s hb
  exact ⟨p, a', s', fun st k hk => by rw [mcall_cur l a s st h1 hp hk]; simp [progV], h2, h3⟩

theorem dr_prog : Dr 87 [] 2320 IsProg := by
  intro l a s ha
  obtain ⟨b, a1, s1, g1, g11⟩ := (dr_one 2 (by omega)).bool l a s (by rfl) (by omega)
  cases b
  · obtain ⟨n, a2, s2, g2, g21, g22⟩ := dr_among l a1 s1 [8, 32, 64] (by simp) (by simp) (by omega)
    simp only [ints, List.map] at g2
    obtain ⟨wide, rfl⟩ : ∃ k : Nat, n = k := ⟨n.toNat, by simp at g22; omega⟩
    have hw : wide ≤ 64 := by simp at g22; omega
    obtain ⟨x, a3, s3, g3, g31, g32, g33⟩ := (dr_pick 3 (by omega)).num l a2 s2 (by rfl) (by omega)
    obtain ⟨k, rfl⟩ : ∃ k : Nat, x = k := ⟨x.toNat, by omega⟩
    have hw1 : wr (1 + (k : Int)) = 1 + (k : Int) := by rw [wr_id] <;> omega
    obtain ⟨t, cs, a4, s4, g4, g41, g42, g43, g44, g45⟩ := (dr_progOf wide (by omega) (1 + k) (by omega)).progO l a3 s3 (by rfl) (by omega)
    have hf : (Pg.mk wide (1 + k : Nat) t cs).fit := ⟨by show (0 : Int) ≤ (wide : Int); omega, by show (wide : Int) ≤ 64; omega, by show (0 : Int) ≤ ((1 + k : Nat) : Int); omega, by show ((1 + k : Nat) : Int) ≤ 5; omega, g42, g44, fun c hc => (g45 c hc).fit⟩
    have done : ∀ R, R = some (progV ⟨wide, (1 + k : Nat), t, cs⟩, [cur l a4 s4]) → Ev R (DrQ l a 2320 IsProg) := fun R h => by
      rw [h]; exact ⟨_, rfl, DrQ.mk (by omega) ⟨_, rfl, hf, rfl⟩⟩
    apply done
    rcases three g43 g44 with ⟨c1, rfl⟩ | ⟨c1, c2, rfl⟩ | ⟨c1, c2, c3, rfl⟩ <;>
    · simp only [chArrs, List.map_cons, List.map_nil, List.length_cons, List.length_nil, cmdCells, tsl, Int.natCast_add, Int.cast_ofNat_Int] at g4
      simp [e87, F87_c, g1, g2, g3, hw1, g4]
      simp [fin, F87, progV, cmdsl, cmdC, chsl, tsl]
  · obtain ⟨p, a2, s2, g2, g21, g22⟩ := dr_small.prog l a1 s1 (by rfl) (by omega)
    have done : ∀ R, R = some (progV p, [cur l a2 s2]) → Ev R (DrQ l a 2320 IsProg) := fun R h => by
      rw [h]; exact ⟨_, rfl, DrQ.mk (by omega) ⟨_, rfl, g22, rfl⟩⟩
    apply done
    simp only [progV, tsl, cmdsl] at g2 ⊢
    simp [e87, F87_c, g1, g2]
    simp [fin, F87]
end Go.Proofs.YtplgdddfhjpojaaGreat.AM

namespace Go.Proofs.YtplgdddfhjpojaaGreat.AM
open Go

/-- A choice among numbers that lie in a slice that nobody writes. -/
theorem dr_amongD (ns : List Int) (h0 : ns ≠ []) (hl : ns.length < 1000) (l : List (BitVec 8)) (a : Nat) (s : BitVec 64) (ha : a + 2 < 4611686018427387904) :
    ∃ n a' s', (∀ (st : St) (k : Nat), st[k]? = some (cur l a s) → mcall (acall T X) false [] 4 [.ptr k 0 0 0, .d (.sl (ints ns))] st = some (.d (.int .i64 n), st.set k (cur l a' s'))) ∧ a' ≤ a + 2 ∧ n ∈ ns := by
  obtain ⟨n, a', s', h, h1, h2⟩ := among l a s ns h0 hl ha
  exact ⟨n, a', s', fun st k hk => by rw [mcall_cur l a s st h (by rfl) hk]; simp, h1, h2⟩

theorem c88 (l : List (BitVec 8)) : ∃ (p : Pg) (ss : List Sp) (n : Int), acall T X 88 [.d (bytesD l)] [] = some (.tup [progV p, .d (ssl ss), .d (.int .i64 n)], []) ∧ p.fit ∧ ss.length ≤ 5 ∧ 0 ≤ n ∧ n ≤ 21 := by
  obtain ⟨p, a1, s1, g1, g11, hf⟩ := dr_prog.prog l 0 0#64 (by rfl) (by omega)
  obtain ⟨w, v, t, cs⟩ := p
  obtain ⟨wide, rfl⟩ : ∃ k : Nat, w = k := ⟨w.toNat, by have := hf.w0; simp only at this; omega⟩
  obtain ⟨vars, rfl⟩ : ∃ k : Nat, v = k := ⟨v.toNat, by have := hf.v0; simp only at this; omega⟩
  have hw := hf.w1
  have hv := hf.v1
  simp only at hw hv
  obtain ⟨ss, a2, s2, g2, g21, g22⟩ := (dr_spans wide (by omega) vars (by omega)).spans l a1 s1 (by rfl) (by omega)
  obtain ⟨n, a3, s3, g3, g31, g32⟩ := dr_amongD [0, 1, 2, 5, 20, 20, 21] (by simp) (by simp) l a2 s2 (by omega)
  have hn : 0 ≤ n ∧ n ≤ 21 := by simp at g32; omega
  refine ⟨_, ss, n, ?_, hf, by omega, hn.1, hn.2⟩
  simp only [ints, List.map] at g3
  simp only [progV, tsl, cmdsl, ssl] at g1 g2 ⊢
  simp [e88, F88_c, bytesD, cur_new, g1, g2, g3]
  simp [fin, F88]

theorem c116 (l : List (BitVec 8)) : ∃ (p : Pg) (ss : List Sp), acall T X 116 [.d (bytesD l)] [] = some (.tup [progV p, .d (ssl ss)], []) ∧ p.fit ∧ ss.length ≤ 5 := by
  obtain ⟨p, a1, s1, g1, g11, hf⟩ := dr_prog.prog l 0 0#64 (by rfl) (by omega)
  obtain ⟨w, v, t, cs⟩ := p
  obtain ⟨wide, rfl⟩ : ∃ k : Nat, w = k := ⟨w.toNat, by have := hf.w0; simp only at this; omega⟩
  obtain ⟨vars, rfl⟩ : ∃ k : Nat, v = k := ⟨v.toNat, by have := hf.v0; simp only at this; omega⟩
  have hw := hf.w1
  have hv := hf.v1
  simp only at hw hv
  obtain ⟨ss, a2, s2, g2, g21, g22⟩ := (dr_spans wide (by omega) vars (by omega)).spans l a1 s1 (by rfl) (by omega)
  refine ⟨_, ss, ?_, hf, by omega⟩
  simp only [progV, tsl, cmdsl, ssl] at g1 g2 ⊢
  simp [e116, F116_c, bytesD, cur_new, g1, g2]
  simp [fin, F116]

/-- Own words. -/
def OwnW (n : Nat) (v : AV) (os : List AO) : Prop := ∃ ws : List (BitVec 64), v = .hs 1 1 0 ws.length ∧ os = [.arr 1 (ws.map fun w => [.w w]) true] ∧ ws.length = n
theorem Dr.ownW {f : Nat} {as : List AV} {k n : Nat} (h : Dr f as k (OwnW n)) (l : List (BitVec 8)) (a : Nat) (s : BitVec 64) (hp : plainL as = true) (hb : a + k < 4611686018427387904) :
    ∃ (ws : List (BitVec 64)) (a' : Nat) (s' : BitVec 64), (∀ (st : St) (k : Nat), st[k]? = some (cur l a s) → mcall (acall T X) false [] f (.ptr k 0 0 0 :: as) st = some (.hs st.length 1 0 ws.length, st.set k (cur l a' s') ++ [.arr 1 (ws.map fun w => [.w w]) true])) ∧ a' ≤ a + k ∧ ws.length = n := by
  obtain ⟨v, a', s', os, h1, h2, ws, rfl, rfl, h3⟩ := h.get l a s hb
  exact ⟨ws, a', s', fun st k hk => by rw [mcall_cur l a s st h1 hp hk]; simp, h2, h3⟩

theorem dr_state (wide : Nat) (hw : wide < 1000) (vars : Nat) (hv : vars < 1000) : Dr 118 [.d (.int .i64 wide), .d (.int .i64 vars)] (20 * vars) (OwnW vars) := by
  intro l a s ha
  have loop : ∀ (n : Nat) (z : Int) (ws : List (BitVec 64)) (a' : Nat) (s' : BitVec 64), ws.length + n = vars → z = ws.length → a' ≤ a + 20 * ws.length →
      Ev (go T X F118 1 [.code F118_b0, .inLoop [(0, .keep), (1, .keep), (2, .keep), (7, .ow 1), (8, .keep)] F118_l0, .inBlock 0, .code (.kp [(7, .keep)] F118_t0)] [(0, .ptr 0 0 0 0), (1, .d (.int .i64 wide)), (2, .d (.int .i64 vars)), (7, .hs 1 1 0 ws.length), (8, .d (.int .i64 z))] [cur l a' s', .arr 1 (ws.map fun w => [.w w]) true]) (DrQ l a (20 * vars) (OwnW vars)) := by
    intro n
    induction n with
    | zero =>
      intro z ws a' s' hn hz ha'
      subst hz
      obtain rfl : ws.length = vars := by omega
      simp [F118_b0, F118_t0]
      simp [fin, F118]
      exact DrQ.mk (by omega) ⟨ws, rfl, rfl, rfl⟩
    | succ n ih =>
      intro z ws a' s' hn hz ha'
      subst hz
      have h1 : ws.length < vars := by omega
      have hw1 : wr ((ws.length : Int) + 1) = (ws.length : Int) + 1 := by rw [wr_id] <;> omega
      have hm : ws.length + 1 ≤ maxApp := by simp only [maxApp]; omega
      obtain ⟨x, a1, s1, g1, g11⟩ := (dr_word wide hw).word l a' s' (by rfl) (by omega)
      have := ih ((ws.length : Int) + 1) (ws ++ [x]) a1 s1 (by simp; omega) (by simp) (by simp; omega)
      simp at this
      simp [F118_b0, h1, g1, hm, hw1]
      rw [go_inLoop]
      simp
      exact this
  have := loop vars 0 [] a s (by simp) (by simp) (by omega)
  simp at this
  simp [e118, F118_c]
  rw [go_inLoop]
  simp
  exact this

/-- The loop that puts the upper ends. -/
theorem c119_loop (wide : Nat) (ss : List Sp) (hs : ss.length < 1000) : ∀ (n j : Nat) (z : Int) (ws : List (BitVec 64)), j + n = ws.length → z = j → ws.length = ss.length →
    ∃ us : List (BitVec 64), us.length = ss.length ∧ ∀ R, go T X F119 0 [.code (.kp [(6, .keep), (7, .keep), (8, .keep)] F119_t0)] [(6, .d (.int .i64 wide)), (7, .d (ssl ss)), (8, .hs 0 1 0 us.length), (29, .d (.int .i64 us.length)), (30, .d (.int .i64 us.length)), (31, .d (.bool false))] [.arr 1 (us.map fun w => [.w w]) true] = R →
      go T X F119 0 [.inLoop [(6, .keep), (7, .keep), (8, .keep), (29, .keep), (30, .keep)] F119_l0, .inBlock 0, .code (.kp [(6, .keep), (7, .keep), (8, .keep)] F119_t0)]
        [(6, .d (.int .i64 wide)), (7, .d (ssl ss)), (8, .hs 0 1 0 ws.length), (29, .d (.int .i64 ws.length)), (30, .d (.int .i64 z))] [.arr 1 (ws.map fun w => [.w w]) true] = R := by
  intro n
  induction n with
  | zero =>
    intro j z ws hj hz hl
    subst hz
    obtain rfl : j = ws.length := by omega
    refine ⟨ws, hl, fun R hR => ?_⟩
    simp [ssl] at hR
    rw [go_inLoop]
    simp [F119_b0, ssl]
    exact hR
  | succ n ih =>
    intro j z ws hj hz hl
    subst hz
    have h1 : j < ws.length := by omega
    have h2 : j < ss.length := by omega
    have hw1 : wr ((j : Int) + 1) = (j : Int) + 1 := by rw [wr_id] <;> omega
    obtain ⟨us, hu, hR⟩ := ih (j + 1) ((j : Int) + 1) (ws.set j ss[j].2) (by simp; omega) (by simp) (by simpa using hl)
    refine ⟨us, hu, fun R h => ?_⟩
    have := hR R h
    simp [ssl, List.map_set] at this
    rw [go_inLoop]
    simp [F119_b0, ssl, h1, h2, spanC, hw1]
    exact this

theorem c119 (l : List (BitVec 8)) : ∃ (wide : Nat) (ss : List Sp) (ws : List (BitVec 64)), acall T X 119 [.d (bytesD l)] [] = some (.tup [.d (.int .i64 wide), .d (ssl ss), .d (wordsD ws)], []) ∧ wide ≤ 65 ∧ 1 ≤ ss.length ∧ ss.length ≤ 4 ∧ ws.length = ss.length := by
  obtain ⟨n, a1, s1, g1, g11, g12⟩ := dr_width.one l 0 0#64 (by rfl) (by omega)
  obtain ⟨wide, rfl⟩ : ∃ k : Nat, n = k := ⟨n.toNat, by simp at g12; omega⟩
  have hw : wide ≤ 65 := by simp at g12; omega
  obtain ⟨x, a2, s2, g2, g21, g22, g23⟩ := (dr_pick 4 (by omega)).num l a1 s1 (by rfl) (by omega)
  obtain ⟨k, rfl⟩ : ∃ k : Nat, x = k := ⟨x.toNat, by omega⟩
  obtain ⟨m, hm⟩ : ∃ m : Nat, m = 1 + k := ⟨_, rfl⟩
  have hw1 : wr (1 + (k : Int)) = (m : Int) := by rw [wr_id] <;> omega
  obtain ⟨ss, a3, s3, g3, g31, g32⟩ := (dr_spans wide (by omega) m (by omega)).spans l a2 s2 (by rfl) (by omega)
  obtain ⟨ws, a4, s4, g4, g41, g42⟩ := (dr_state wide (by omega) ss.length (by omega)).ownW l a3 s3 (by rfl) (by omega)
  obtain ⟨b, a5, s5, g5, g51⟩ := (dr_one 3 (by omega)).bool l a4 s4 (by rfl) (by omega)
  cases b
  · refine ⟨wide, ss, ws, ?_, hw, by omega, by omega, g42⟩
    simp only [ssl] at g3 ⊢
    simp [e119, F119_c, bytesD, cur_new, g1, g2, hw1, g3, g4, g5, F119_t0]
    simp [fin, F119, wordsD]
  · obtain ⟨us, hu, hR⟩ := c119_loop wide ss (by omega) ws.length 0 0 ws (by omega) rfl g42
    refine ⟨wide, ss, us, ?_, hw, by omega, by omega, hu⟩
    have := hR (some (.tup [.d (.int .i64 wide), .d (ssl ss), .d (wordsD us)], [])) (by
      simp [F119_t0, ssl]
      simp [fin, F119, wordsD])
    rw [go_inLoop] at this
    simp [ssl] at this
    simp only [ssl] at g3 ⊢
    simp [e119, F119_c, bytesD, cur_new, g1, g2, hw1, g3, g4, g5]
    rw [go_inLoop]
    simp
    exact this
end Go.Proofs.YtplgdddfhjpojaaGreat.AM

namespace Go.Proofs.YtplgdddfhjpojaaGreat.AM
open Go

theorem Tr.flat_last : ∀ r : Tr, ∃ q, r.flat = q ++ [r.root]
  | .lf x => ⟨[], rfl⟩
  | .un x a => ⟨a.flat, rfl⟩
  | .bi x a b => ⟨a.flat ++ b.flat, by simp [Tr.flat, Tr.root]⟩

/-- A term of a kind. -/
def isK (wide vars k : Int) (t : List Nd) : Bool := decide (kindS wide vars t = k)

theorem kind_last {wide vars : Int} {t : List Nd} (h : goodT wide vars t = true) : ∃ q x, t = q ++ [x] ∧ kindS wide vars t = ownK x.1 ∧ ownK x.1 ≠ 0 := by
  have h' := h
  unfold goodT at h
  simp only [Bool.and_eq_true, decide_eq_true_eq] at h
  obtain ⟨⟨⟨⟨h1, h2⟩, h3, h4⟩, h5, h6⟩, h7⟩ := h
  cases hk : kfold wide vars t [] with
  | none => rw [hk] at h7; cases h7
  | some stk =>
    rw [hk] at h7
    simp only [beq_iff_eq] at h7
    obtain ⟨gs, g1, g2, g3⟩ := parse (fs := []) hk (by simp)
    have hl : gs.length = 1 := by rw [g1] at h7; simpa using h7
    obtain ⟨r, rfl⟩ := List.length_eq_one_iff.1 hl
    simp at g3 g1
    subst g1
    obtain ⟨q, hq⟩ := r.flat_last
    refine ⟨q, r.root, by rw [← g3]; exact hq, ?_, r.own (g2 r (by simp))⟩
    unfold kindS
    rw [if_pos ⟨h1, h2, h3, h4, h5, h6⟩, hk]
    rfl

theorem isK_good {wide vars k : Int} {t : List Nd} (hk : 0 < k) (h : isK wide vars k t = true) : goodT wide vars t = true := by
  rw [← kindS_good]
  simp only [isK, decide_eq_true_eq] at h
  simpa [h] using hk

theorem c89 (q : List Nd) (x : Nd) (hl : q.length < 1000000) : acall T X 89 [.d (tsl (q ++ [x]))] [] = some (.d (.int .i64 (ownK x.1)), []) := by
  have hw : wr (q.length : Int) = q.length := by rw [wr_id] <;> omega
  simp [e89, F89_c, tsl, hw, nodeV, node, c24]
  simp [fin, F89]

theorem c90 (wide vars k : Int) (hk : 0 < k) (t : List Nd) (hl : t.length < 1000000) : acall T X 90 [.d (.int .i64 wide), .d (.int .i64 vars), .d (tsl t), .d (.int .i64 k)] [] = some (.d (.bool (isK wide vars k t)), []) := by
  have h1 := c29 wide vars t hl
  cases hg : goodT wide vars t with
  | false =>
    have : isK wide vars k t = false := by
      cases hi : isK wide vars k t with
      | false => rfl
      | true => rw [isK_good hk hi] at hg; cases hg
    rw [hg] at h1
    rw [this]
    simp only [tsl] at h1 ⊢
    simp [e90, F90_c, h1]
    simp [fin, F90]
  | true =>
    obtain ⟨q, x, rfl, h2, _⟩ := kind_last hg
    have h3 := c89 q x (by simp at hl; omega)
    rw [hg] at h1
    simp only [tsl, List.map_append, List.map_cons, List.map_nil] at h1 h3 ⊢
    simp [e90, F90_c, h1, h3]
    simp [fin, F90, isK, h2]
    rfl

theorem c91 (p : Pg) (t : List Nd) (hl : t.length < 1000000) : acall T X 91 [progV p, .d (tsl t)] [] = some (.d (.bool (isK p.wide p.vars 2 t)), []) := by
  have h := c90 p.wide p.vars 2 (by decide) t hl
  simp only [progV, tsl, cmdsl] at h ⊢
  simp [e91, F91_c, h]
  simp [fin, F91]

theorem c102 (p : Pg) (t : List Nd) (hl : t.length < 1000000) : acall T X 102 [progV p, .d (tsl t)] [] = some (.d (.bool (isK p.wide p.vars 2 t)), []) := by
  have h := c44 p.wide p.vars t hl
  simp only [progV, tsl, cmdsl] at h ⊢
  simp [e102, F102_c, h]
  simp [fin, F102, isK]
  rfl
end Go.Proofs.YtplgdddfhjpojaaGreat.AM

namespace Go.Proofs.YtplgdddfhjpojaaGreat.AM
open Go

def cmdV (c : Cmd) : AV := .agg [.d (tsl c.1), .d (chsl c.2)]
def progC (p : Pg) : List D := [.int .i64 p.wide, .int .i64 p.vars, tsl p.start, cmdsl p.cmds]
/-- Changes of variables that rise, each by a number's term. -/
def chsOk (wide vars : Int) : Int → List Ch → Bool
  | _, [] => true
  | prev, c :: cs => decide (0 ≤ c.1) && decide (c.1 < vars) && decide (prev < c.1) && isK wide vars 1 c.2 && chsOk wide vars c.1 cs
def goodCmd (wide vars : Int) (c : Cmd) : Bool := isK wide vars 2 c.1 && chsOk wide vars (-1) c.2
def goodP (p : Pg) : Bool := (decide (1 ≤ p.wide) && decide (p.wide ≤ 64)) && (decide (1 ≤ p.vars) && decide (p.vars ≤ 4)) && isK p.wide p.vars 2 p.start && (decide (1 ≤ p.cmds.length) && decide (p.cmds.length ≤ 6)) && p.cmds.all (goodCmd p.wide p.vars)
/-- The variable changed last. -/
def lastV (pre : List Ch) (prev : Int) : Prop := (pre = [] ∧ prev = -1) ∨ ∃ q y, pre = q ++ [y] ∧ prev = y.1

set_option maxHeartbeats 2000000 in
theorem c94_loop (p : Pg) (c : Cmd) (hl : c.2.length < 1000000) (hx : ∀ x ∈ c.2, x.2.length < 1000000) : ∀ (suf pre : List Ch) (z prev : Int), c.2 = pre ++ suf → z = pre.length → lastV pre prev →
    go T X F94 0 [.code F94_b0, .inLoop [(2, .keep), (3, .keep), (13, .keep), (14, .keep), (15, .keep)] F94_l0, .inBlock 0, .code (.kp [] F94_t0)]
      [(2, .ptr 0 0 0 0), (3, .ptr 1 0 0 0), (13, .d (chsl c.2)), (14, .d (.int .i64 c.2.length)), (15, .d (.int .i64 z))] [.box [.d (.int .i64 p.wide), .d (.int .i64 p.vars), .d (tsl p.start), .d (cmdsl p.cmds)], .box [.d (tsl c.1), .d (chsl c.2)]] =
    some (.d (.bool (chsOk p.wide p.vars prev suf)), []) := by
  intro suf
  induction suf with
  | nil =>
    intro pre z prev hs hz hp
    subst hz
    have : c.2.length = pre.length := by simp [hs]
    simp [F94_b0, this, F94_t0, chsl, tsl, cmdsl]
    simp [fin, F94, chsOk]
  | cons x suf ih =>
    intro pre z prev hs hz hp
    subst hz
    have h1 : pre.length < c.2.length := by simp [hs]
    have h2 : c.2[pre.length] = x := by simp [hs]
    have kc := c90 p.wide p.vars 1 (by decide) x.2 (hx x (by simp [hs]))
    have hcont := ih (pre ++ [x]) (wr ((pre.length : Int) + 1)) x.1 (by simp [hs]) (by rw [wr_id (by omega) (by omega)]; simp) (.inr ⟨pre, x, rfl, rfl⟩)
    simp only [chsl, tsl, cmdsl] at hcont kc
    by_cases q1 : x.1 < 0
    · have : ¬ 0 ≤ x.1 := by omega
      simp [F94_b0, h1, h2, chsl, tsl, cmdsl, chC, q1]
      simp [fin, F94, chsOk, this]
    have q1' : 0 ≤ x.1 := by omega
    by_cases q2 : p.vars ≤ x.1
    · have : ¬ x.1 < p.vars := by omega
      simp [F94_b0, h1, h2, chsl, tsl, cmdsl, chC, q1, q2]
      simp [fin, F94, chsOk, this]
    have q2' : x.1 < p.vars := by omega
    rcases hp with ⟨rfl, rfl⟩ | ⟨q, y, rfl, rfl⟩
    · have h3 : (-1 : Int) < x.1 := by omega
      cases hk : isK p.wide p.vars 1 x.2 with
      | false =>
        rw [hk] at kc
        simp at h1 h2
        simp [F94_b0, h1, h2, chsl, tsl, cmdsl, chC, q1, q2, kc]
        simp [fin, F94, chsOk, hk]
      | true =>
        rw [hk] at kc
        simp at h1 h2 hcont
        simp [F94_b0, h1, h2, chsl, tsl, cmdsl, chC, q1, q2, kc]
        rw [go_inLoop]
        simp
        rw [hcont]
        simp [chsOk, q1', q2', h3, hk]
    · obtain ⟨m, hm⟩ : ∃ m, m = (q ++ [y]).length := ⟨_, rfl⟩
      have hm' : m = q.length + 1 := by simpa using hm
      rw [← hm] at hcont ⊢
      have h1' : m < c.2.length := by omega
      have h2' : c.2[m] = x := by simp only [hm]; exact h2
      have hw : wr ((m : Int) - 1) = (q.length : Int) := by rw [wr_id] <;> omega
      have h3 : q.length < c.2.length := by omega
      have h4 : c.2[q.length] = y := by simp [hs]
      have h5 : 0 < m := by omega
      have e3 : c.2 = q ++ y :: x :: suf := by simp [hs]
      by_cases q3 : x.1 ≤ y.1
      · have : ¬ y.1 < x.1 := by omega
        simp [F94_b0, h1', h2', h3, h4, h5, hw, chsl, tsl, cmdsl, chC, q1, q2, q3]
        simp [fin, F94, chsOk, this]
      have q3' : y.1 < x.1 := by omega
      cases hk : isK p.wide p.vars 1 x.2 with
      | false =>
        rw [hk] at kc
        simp [F94_b0, h1', h2', h3, h4, h5, hw, chsl, tsl, cmdsl, chC, q1, q2, q3, kc]
        simp [fin, F94, chsOk, hk]
      | true =>
        rw [hk] at kc
        simp [F94_b0, h1', h2', h3, h4, h5, hw, chsl, tsl, cmdsl, chC, q1, q2, q3, kc]
        rw [go_inLoop]
        simp
        rw [hcont]
        simp [chsOk, q1', q2', q3', hk]

/-- Short enough to be walked. -/
def shortC (c : Cmd) : Prop := c.1.length < 1000000 ∧ c.2.length < 1000000 ∧ ∀ x ∈ c.2, x.2.length < 1000000
theorem cmdFit.short {c : Cmd} (h : cmdFit c) : shortC c := ⟨by have := h.1; omega, by have := h.2.1; omega, fun x hx => by have := h.2.2 x hx; omega⟩

theorem c94 (p : Pg) (c : Cmd) (hc : shortC c) : acall T X 94 [progV p, cmdV c] [] = some (.d (.bool (goodCmd p.wide p.vars c)), []) := by
  have h1 := c91 p c.1 hc.1
  cases hk : isK p.wide p.vars 2 c.1 with
  | false =>
    rw [hk] at h1
    simp only [progV, cmdV, tsl, cmdsl, chsl] at h1 ⊢
    simp [e94, F94_c, h1]
    simp [fin, F94, goodCmd, hk]
  | true =>
    rw [hk] at h1
    have h2 := c94_loop p c hc.2.1 hc.2.2 c.2 [] 0 (-1) rfl rfl (.inl ⟨rfl, rfl⟩)
    simp only [progV, cmdV, tsl, cmdsl, chsl] at h1 h2 ⊢
    simp [e94, F94_c, h1]
    rw [go_inLoop]
    simp
    rw [h2]
    simp [goodCmd, hk]

theorem c95 (p : Pg) (c : Cmd) (hc : shortC c) : acall T X 95 [cmdV c, .eptr (progC p) 0] [] = some (.d (.bool (!goodCmd p.wide p.vars c)), []) := by
  have h := c94 p c hc
  simp only [progV, progC, cmdV, tsl, cmdsl, chsl] at h ⊢
  simp [e95, F95_c, h]
  simp [fin, F95]
end Go.Proofs.YtplgdddfhjpojaaGreat.AM

namespace Go.Proofs.YtplgdddfhjpojaaGreat.AM
open Go

theorem index92 (g : Nat) (caps : List AV) (hk : CapOk caps) (xs : List Cmd) (p : Cmd → Bool) (hp : ∀ x ∈ xs, acall T X g (cmdV x :: caps) [] = some (.d (.bool (p x)), [])) (hl : xs.length < 1000000) :
    Ev (acall T X 92 [.d (cmdsl xs), .fn g caps] []) fun r => ∃ n : Int, r = (.d (.int .i64 n), []) ∧ (0 ≤ n ↔ xs.any p = true) := by
  obtain ⟨hc, hc2, hc3⟩ := hk
  have loop : ∀ (suf pre : List Cmd) (z : Int), xs = pre ++ suf → z = pre.length →
      Ev (go T X F92 0 [.code F92_b0, .inLoop [(0, .keep), (1, .keep), (7, .keep), (8, .keep)] F92_l0, .inBlock 0, .code (.kp [] F92_t0)] [(0, .d (cmdsl xs)), (1, .fn g caps), (7, .d (.int .i64 xs.length)), (8, .d (.int .i64 z))] []) fun r => ∃ n : Int, r = (.d (.int .i64 n), []) ∧ (0 ≤ n ↔ suf.any p = true) := by
    intro suf
    induction suf with
    | nil =>
      intro pre z hx hz
      subst hz
      have : xs.length = pre.length := by simp [hx]
      simp [F92_b0, this, F92_t0]
      simp [fin, F92]
    | cons x suf ih =>
      intro pre z hx hz
      subst hz
      have h1 : pre.length < xs.length := by simp [hx]
      have h2 : xs[pre.length] = x := by simp [hx]
      have hp' := hp x (by simp [hx])
      simp only [cmdV, tsl, chsl] at hp'
      cases hpx : p x with
      | true =>
        simp [F92_b0, h1, cmdsl, cmdC, tsl, chsl, h2, hc, hp', hpx]
        simp [fin, F92]
      | false =>
        have := ih (pre ++ [x]) (wr ((pre.length : Int) + 1)) (by simp [hx]) (by rw [wr_id (by omega) (by omega)]; simp)
        simp [cmdsl] at this
        simp [F92_b0, h1, cmdsl, cmdC, tsl, chsl, h2, hc, hp', hpx]
        rw [go_inLoop]
        simp [hc2, hc3]
        exact this
  have := loop xs [] 0 rfl rfl
  simp [e92, F92_c, cmdsl] at this ⊢
  rw [go_inLoop]
  simp [hc2, hc3]
  exact this

theorem contains93 (g : Nat) (caps : List AV) (hk : CapOk caps) (xs : List Cmd) (p : Cmd → Bool) (hp : ∀ x ∈ xs, acall T X g (cmdV x :: caps) [] = some (.d (.bool (p x)), [])) (hl : xs.length < 1000000) :
    acall T X 93 [.d (cmdsl xs), .fn g caps] [] = some (.d (.bool (xs.any p)), []) := by
  obtain ⟨r, h, n, rfl, hn⟩ := index92 g caps hk xs p hp hl
  obtain ⟨hc, hc2, hc3⟩ := hk
  have hb : decide (0 ≤ n) = xs.any p := by
    rw [Bool.eq_iff_iff]; simpa using hn
  simp only [cmdsl] at h ⊢
  simp [e93, F93_c, hc, h, hb]
  simp [fin, F93, hb]

/-- Short enough to be walked. -/
def shortP (p : Pg) : Prop := p.start.length < 1000000 ∧ p.cmds.length < 1000000 ∧ ∀ c ∈ p.cmds, shortC c
theorem Pg.fit.short {p : Pg} (h : p.fit) : shortP p := ⟨by have := h.st; omega, by have := h.cm; omega, fun c hc => (h.cs c hc).short⟩

theorem c96 (p : Pg) (hs : shortP p) : acall T X 96 [progV p] [] = some (.d (.bool (goodP p)), []) := by
  have k1 := c91 p p.start hs.1
  have k2 := contains93 95 [.eptr (progC p) 0] (capOk_one _) p.cmds (fun c => !goodCmd p.wide p.vars c) (fun c hc => c95 p c (hs.2.2 c hc)) hs.2.1
  have ha := not_any_all (goodCmd p.wide p.vars) p.cmds
  simp only [progV, progC, cmdV, tsl, cmdsl, chsl] at k1 k2 ⊢
  by_cases h1 : 1 ≤ p.wide
  case neg => simp [e96, F96_c, c18, h1]; simp [fin, F96, goodP, h1]
  by_cases h2 : p.wide ≤ 64
  case neg => simp [e96, F96_c, c18, h1, h2]; simp [fin, F96, goodP, h1, h2]
  by_cases h3 : 1 ≤ p.vars
  case neg => simp [e96, F96_c, c18, c15, h1, h2, h3]; simp [fin, F96, goodP, h1, h2, h3]
  by_cases h4 : p.vars ≤ 4
  case neg => simp [e96, F96_c, c18, c15, h1, h2, h3, h4]; simp [fin, F96, goodP, h1, h2, h3, h4]
  cases hk : isK p.wide p.vars 2 p.start with
  | false =>
    rw [hk] at k1
    simp [e96, F96_c, c18, c15, h1, h2, h3, h4, k1]; simp [fin, F96, goodP, h1, h2, h3, h4, hk]
  | true =>
  rw [hk] at k1
  by_cases h5 : 1 ≤ p.cmds.length
  case neg =>
    have h5' : (p.cmds.length : Int) < 1 := by omega
    simp [e96, F96_c, c18, c15, h1, h2, h3, h4, k1, h5']; simp [fin, F96, goodP, h1, h2, h3, h4, hk, h5]
  have h5' : ¬ (p.cmds.length : Int) < 1 := by omega
  by_cases h6 : p.cmds.length ≤ 6
  case neg =>
    have h6' : (6 : Int) < (p.cmds.length : Int) := by omega
    simp [e96, F96_c, c18, c15, h1, h2, h3, h4, k1, h5', h6']; simp [fin, F96, goodP, h1, h2, h3, h4, hk, h5, h6]
  have h6' : ¬ (6 : Int) < (p.cmds.length : Int) := by omega
  simp [e96, F96_c, c18, c15, h1, h2, h3, h4, k1, h5', h6', k2]
  rw [ha]
  simp [fin, F96, goodP, h1, h2, h3, h4, hk, h5, h6]

/-- A command's changes are no more than the variables. -/
theorem chsOk_len {wide vars : Int} : ∀ {cs : List Ch} {prev : Int}, -1 ≤ prev → chsOk wide vars prev cs = true → cs = [] ∨ prev + cs.length < vars
  | [], _, _, _ => .inl rfl
  | c :: cs, prev, h0, h => by
    simp only [chsOk, Bool.and_eq_true, decide_eq_true_eq] at h
    obtain ⟨⟨⟨⟨h1, h2⟩, h3⟩, _⟩, h4⟩ := h
    right
    rcases chsOk_len (by omega) h4 with rfl | h5
    · simp; omega
    · simp; omega

set_option maxHeartbeats 2000000 in
theorem c103_loop (p : Pg) (hv : p.vars ≤ 1000) (hv0 : -1000 ≤ p.vars) (c : Cmd) (hl : c.2.length < 1000000) (hx : ∀ x ∈ c.2, x.2.length < 1000000) : ∀ (suf pre : List Ch) (z prev : Int), c.2 = pre ++ suf → z = pre.length → lastV pre prev →
    go T X F103 0 [.code F103_b0, .inLoop [(2, .keep), (3, .keep), (21, .keep), (22, .keep), (23, .keep)] F103_l0, .inBlock 0, .code (.kp [] F103_t0)]
      [(2, .ptr 0 0 0 0), (3, .ptr 1 0 0 0), (21, .d (chsl c.2)), (22, .d (.int .i64 c.2.length)), (23, .d (.int .i64 z))] [.box [.d (.int .i64 p.wide), .d (.int .i64 p.vars), .d (tsl p.start), .d (cmdsl p.cmds)], .box [.d (tsl c.1), .d (chsl c.2)]] =
    some (.d (.bool (chsOk p.wide p.vars prev suf)), []) := by
  intro suf
  have hwv : wr (p.vars - 1) = p.vars - 1 := by rw [wr_id] <;> omega
  induction suf with
  | nil =>
    intro pre z prev hs hz hp
    subst hz
    have : c.2.length = pre.length := by simp [hs]
    simp [F103_b0, this, F103_t0, chsl, tsl, cmdsl]
    simp [fin, F103, chsOk]
  | cons x suf ih =>
    intro pre z prev hs hz hp
    subst hz
    have h1 : pre.length < c.2.length := by simp [hs]
    have h2 : c.2[pre.length] = x := by simp [hs]
    have kc := c44 p.wide p.vars x.2 (hx x (by simp [hs]))
    have hcont := ih (pre ++ [x]) (wr ((pre.length : Int) + 1)) x.1 (by simp [hs]) (by rw [wr_id (by omega) (by omega)]; simp) (.inr ⟨pre, x, rfl, rfl⟩)
    simp only [chsl, tsl, cmdsl] at hcont kc
    by_cases q1 : 0 ≤ x.1
    case neg =>
      simp [F103_b0, h1, h2, chsl, tsl, cmdsl, chC, c39, hwv, q1]
      simp [fin, F103, chsOk, q1]
    by_cases q2 : x.1 ≤ p.vars - 1
    case neg =>
      have : ¬ x.1 < p.vars := by omega
      simp [F103_b0, h1, h2, chsl, tsl, cmdsl, chC, c39, hwv, q1, q2]
      simp [fin, F103, chsOk, this]
    have q2' : x.1 < p.vars := by omega
    rcases hp with ⟨rfl, rfl⟩ | ⟨q, y, rfl, rfl⟩
    · have h3 : (-1 : Int) < x.1 := by omega
      by_cases hk : kindS p.wide p.vars x.2 = 1
      case neg =>
        simp at h1 h2
        simp [F103_b0, h1, h2, chsl, tsl, cmdsl, chC, c39, hwv, q1, q2, kc, hk]
        simp [fin, F103, chsOk, isK, hk]
      case pos =>
        simp at h1 h2 hcont
        simp [F103_b0, h1, h2, chsl, tsl, cmdsl, chC, c39, hwv, q1, q2, kc, hk]
        rw [go_inLoop]
        simp
        rw [hcont]
        simp [chsOk, q1, q2', h3, isK, hk]
    · obtain ⟨m, hm⟩ : ∃ m, m = (q ++ [y]).length := ⟨_, rfl⟩
      have hm' : m = q.length + 1 := by simpa using hm
      rw [← hm] at hcont ⊢
      have h1' : m < c.2.length := by omega
      have h2' : c.2[m] = x := by simp only [hm]; exact h2
      have hw : wr ((m : Int) - 1) = (q.length : Int) := by rw [wr_id] <;> omega
      have h3 : q.length < c.2.length := by omega
      have h4 : c.2[q.length] = y := by simp [hs]
      have h5 : 0 < m := by omega
      by_cases q3 : x.1 ≤ y.1
      · have : ¬ y.1 < x.1 := by omega
        simp [F103_b0, h1', h2', h3, h4, h5, hw, chsl, tsl, cmdsl, chC, c39, hwv, q1, q2, q3]
        simp [fin, F103, chsOk, this]
      have q3' : y.1 < x.1 := by omega
      by_cases hk : kindS p.wide p.vars x.2 = 1
      case neg =>
        simp [F103_b0, h1', h2', h3, h4, h5, hw, chsl, tsl, cmdsl, chC, c39, hwv, q1, q2, q3, kc, hk]
        simp [fin, F103, chsOk, isK, hk]
      case pos =>
        simp [F103_b0, h1', h2', h3, h4, h5, hw, chsl, tsl, cmdsl, chC, c39, hwv, q1, q2, q3, kc, hk]
        rw [go_inLoop]
        simp
        rw [hcont]
        simp [chsOk, q1, q2', q3', isK, hk]

theorem c103 (p : Pg) (hv : p.vars ≤ 1000) (hv0 : -1000 ≤ p.vars) (c : Cmd) (hc : shortC c) : acall T X 103 [progV p, cmdV c] [] = some (.d (.bool (goodCmd p.wide p.vars c)), []) := by
  have h1 := c102 p c.1 hc.1
  cases hk : isK p.wide p.vars 2 c.1 with
  | false =>
    rw [hk] at h1
    simp only [progV, cmdV, tsl, cmdsl, chsl] at h1 ⊢
    simp [e103, F103_c, h1]
    simp [fin, F103, goodCmd, hk]
  | true =>
    rw [hk] at h1
    have hv1 : 0 ≤ p.vars := by
      have := isK_good (by decide) hk
      simp only [goodT, Bool.and_eq_true, decide_eq_true_eq] at this
      omega
    by_cases h3 : p.vars < (c.2.length : Int)
    · have : chsOk p.wide p.vars (-1) c.2 = false := by
        cases ho : chsOk p.wide p.vars (-1) c.2 with
        | false => rfl
        | true =>
          rcases chsOk_len (by omega) ho with h4 | h4
          · rw [h4] at h3; simp at h3; omega
          · omega
      simp only [progV, cmdV, tsl, cmdsl, chsl] at h1 ⊢
      simp [e103, F103_c, h1, h3]
      simp [fin, F103, goodCmd, this]
    · have h2 := c103_loop p hv hv0 c hc.2.1 hc.2.2 c.2 [] 0 (-1) rfl rfl (.inl ⟨rfl, rfl⟩)
      simp only [progV, cmdV, tsl, cmdsl, chsl] at h1 h2 ⊢
      simp [e103, F103_c, h1, h3]
      rw [go_inLoop]
      simp
      rw [h2]
      simp [goodCmd, hk]

theorem c104_loop (p : Pg) (hv : p.vars ≤ 1000) (hv0 : -1000 ≤ p.vars) (hs : shortP p) : ∀ (suf pre : List Cmd) (z : Int), p.cmds = pre ++ suf → z = pre.length →
    go T X F104 0 [.code F104_b0, .inLoop [(1, .keep), (18, .keep), (19, .keep), (20, .keep)] F104_l0, .inBlock 0, .code (.kp [] F104_t0)]
      [(1, .ptr 0 0 0 0), (18, .d (cmdsl p.cmds)), (19, .d (.int .i64 p.cmds.length)), (20, .d (.int .i64 z))] [.box [.d (.int .i64 p.wide), .d (.int .i64 p.vars), .d (tsl p.start), .d (cmdsl p.cmds)]] =
    some (.d (.bool (suf.all (goodCmd p.wide p.vars))), []) := by
  intro suf
  obtain ⟨_, hs1, hs2⟩ := hs
  induction suf with
  | nil =>
    intro pre z hx hz
    subst hz
    have : p.cmds.length = pre.length := by simp [hx]
    simp [F104_b0, this, F104_t0, tsl, cmdsl]
    simp [fin, F104]
  | cons c suf ih =>
    intro pre z hx hz
    subst hz
    have h1 : pre.length < p.cmds.length := by simp [hx]
    have h2 : p.cmds[pre.length] = c := by simp [hx]
    have kc := c103 p hv hv0 c (hs2 c (by simp [hx]))
    have hcont := ih (pre ++ [c]) (wr ((pre.length : Int) + 1)) (by simp [hx]) (by rw [wr_id (by omega) (by omega)]; simp)
    simp only [progV, cmdV, chsl, tsl, cmdsl] at hcont kc
    cases hk : goodCmd p.wide p.vars c with
    | false =>
      rw [hk] at kc
      simp [F104_b0, h1, h2, chsl, tsl, cmdsl, cmdC, kc]
      simp [fin, F104, hk]
    | true =>
      rw [hk] at kc
      simp [F104_b0, h1, h2, chsl, tsl, cmdsl, cmdC, kc]
      rw [go_inLoop]
      simp
      rw [hcont]
      simp [hk]

theorem c104 (p : Pg) (hv : p.vars ≤ 1000) (hv0 : -1000 ≤ p.vars) (hs : shortP p) : acall T X 104 [progV p] [] = some (.d (.bool (goodP p)), []) := by
  have k1 := c102 p p.start hs.1
  have k2 := c104_loop p hv hv0 hs p.cmds [] 0 rfl rfl
  simp only [progV, tsl, cmdsl] at k1 k2 ⊢
  cases hk : isK p.wide p.vars 2 p.start with
  | false =>
    rw [hk] at k1
    simp [e104, F104_c, k1]; simp [fin, F104, goodP, hk]
  | true =>
  rw [hk] at k1
  have hg := isK_good (by decide) hk
  simp only [goodT, Bool.and_eq_true, decide_eq_true_eq] at hg
  obtain ⟨⟨⟨⟨g1, g2⟩, g3, g4⟩, _⟩, _⟩ := hg
  by_cases h5 : 1 ≤ p.cmds.length
  case neg =>
    have h5' : ¬ (1 : Int) ≤ p.cmds.length := by omega
    simp [e104, F104_c, k1, c39, h5']; simp [fin, F104, goodP, h5]
  have h5' : (1 : Int) ≤ p.cmds.length := by omega
  by_cases h6 : p.cmds.length ≤ 6
  case neg =>
    have h6' : ¬ (p.cmds.length : Int) ≤ 6 := by omega
    simp [e104, F104_c, k1, c39, h5', h6']; simp [fin, F104, goodP, h6]
  have h6' : (p.cmds.length : Int) ≤ 6 := by omega
  simp [e104, F104_c, k1, c39, h5', h6']
  rw [go_inLoop]
  simp
  rw [k2]
  simp [goodP, hk, g1, g2, g3, g4, h5, h6]
end Go.Proofs.YtplgdddfhjpojaaGreat.AM

namespace Go.Proofs.YtplgdddfhjpojaaGreat.AM
open Go

theorem tree_of {wide vars : Int} {t : List Nd} (h : goodT wide vars t = true) : ∃ r : Tr, t = r.flat ∧ r.good wide vars := by
  unfold goodT at h
  simp only [Bool.and_eq_true, decide_eq_true_eq] at h
  obtain ⟨_, h7⟩ := h
  cases hk : kfold wide vars t [] with
  | none => rw [hk] at h7; cases h7
  | some stk =>
    rw [hk] at h7
    simp only [beq_iff_eq] at h7
    obtain ⟨gs, g1, g2, g3⟩ := parse (fs := []) hk (by simp)
    have hl : gs.length = 1 := by rw [g1] at h7; simpa using h7
    obtain ⟨r, rfl⟩ := List.length_eq_one_iff.1 hl
    simp at g3
    exact ⟨r, g3.symm, g2 r (by simp)⟩

open Classical in
/-- The tree of a term. -/
noncomputable def treeOf (wide vars : Int) (t : List Nd) : Tr := if h : ∃ r : Tr, t = r.flat ∧ r.good wide vars then h.choose else .lf (1, 0#64)
theorem treeOf_flat {wide vars : Int} {t : List Nd} (h : goodT wide vars t = true) : (treeOf wide vars t).flat = t := by
  have := tree_of h
  unfold treeOf
  rw [dif_pos this]
  exact this.choose_spec.1.symm
theorem treeOf_good {wide vars : Int} {t : List Nd} (h : goodT wide vars t = true) : (treeOf wide vars t).good wide vars := by
  have := tree_of h
  unfold treeOf
  rw [dif_pos this]
  exact this.choose_spec.2
theorem treeOf_kind {wide vars k : Int} {t : List Nd} (hk : 0 < k) (h : isK wide vars k t = true) : (treeOf wide vars t).kind = k := by
  have hg := isK_good hk h
  obtain ⟨q, x, h1, h2, _⟩ := kind_last hg
  obtain ⟨q', hq⟩ := (treeOf wide vars t).flat_last
  rw [treeOf_flat hg, h1] at hq
  have := (List.append_inj' hq rfl).2
  simp at this
  simp only [isK, decide_eq_true_eq] at h
  rw [← h1] at this
  rw [Tr.kind, ← this, ← h2, h]

noncomputable def spanT (wide : Nat) (ss : List Sp) (t : List Nd) : Sp := spanS wide ss (treeOf wide ss.length t)
noncomputable def valT (wide : Nat) (n : Nat) (ws : List (BitVec 64)) (t : List Nd) : BitVec 64 := valS wide ws (treeOf wide n t)

theorem goodT_len {wide vars : Int} {t : List Nd} (hg : goodT wide vars t = true) : t.length < 1000 := by
  simp only [goodT, Bool.and_eq_true, decide_eq_true_eq] at hg
  omega

section
variable (wide : Nat) (h1 : 1 ≤ wide) (hw : wide ≤ 64) (ss : List Sp) (hs : ∀ s ∈ ss, goodS wide s = true) (hl : ss.length < 1000) (t : List Nd) (hg : goodT wide ss.length t = true)
include h1 hw hs hl hg

theorem c37T : acall T X 37 [.d (.int .i64 wide), .d (tsl t), .d (ssl ss)] [] = some (spV (spanT wide ss t), []) := by
  have hlen := goodT_len hg
  have := c37 wide h1 hw ss hs hl (treeOf wide ss.length t) (by rw [treeOf_flat hg]; exact hlen) (treeOf_good hg)
  rw [treeOf_flat hg] at this
  exact this
theorem c55T (z : Int) (hz : z = (t.length : Int) - 1) : acall T X 55 [.d (.int .i64 wide), .d (tsl t), .d (.int .i64 z), .d (ssl ss)] [] = some (spV (spanT wide ss t), []) := by
  have hlen := goodT_len hg
  exact c55 wide hw ss hs hl t (by omega) (treeOf wide ss.length t) [] [] (treeOf_good hg) (by simp [treeOf_flat hg]) z (by simp [treeOf_flat hg, hz])
theorem c73T (ws : List (BitVec 64)) (hlen : ws.length = ss.length) (hin : within ss ws = true) : acall T X 73 [.d (.int .i64 wide), .d (tsl t), .d (wordsD ws)] [] = some (.d (.w (valT wide ss.length ws t)), []) := by
  have hle := goodT_len hg
  have := c73 wide h1 hw ss hs hl ws hlen hin (treeOf wide ss.length t) (by rw [treeOf_flat hg]; exact hle) (treeOf_good hg)
  rw [treeOf_flat hg] at this
  exact this
theorem valT_in (ws : List (BitVec 64)) (hlen : ws.length = ss.length) (hin : within ss ws = true) : inS (valT wide ss.length ws t) (spanT wide ss t) :=
  valS_in h1 hw hs hl hlen hin _ (treeOf_good hg)
theorem spanT_good : goodS wide (spanT wide ss t) = true := spanS_good h1 hw hs hl _ (treeOf_good hg)
end

/-- Intervals for a program. -/
def forP (p : Pg) (ss : List Sp) : Bool := goodP p && decide ((ss.length : Int) = p.vars) && goodSS p.wide ss

theorem c97 (p : Pg) (hs : shortP p) (ss : List Sp) (hl : ss.length < 1000000) : acall T X 97 [progV p, .d (ssl ss)] [] = some (.d (.bool (forP p ss)), []) := by
  have k1 := c96 p hs
  have k2 := c23 p.wide ss hl
  simp only [progV, tsl, cmdsl, ssl] at k1 k2 ⊢
  cases hk : goodP p with
  | false =>
    rw [hk] at k1
    simp [e97, F97_c, k1]
    simp [fin, F97, forP, hk]
  | true =>
    rw [hk] at k1
    by_cases hv : (ss.length : Int) = p.vars
    · simp [e97, F97_c, k1, hv, k2]
      simp [fin, F97, forP, hk, hv]
    · simp [e97, F97_c, k1, hv]
      simp [fin, F97, forP, hv]

theorem c105 (p : Pg) (hv : p.vars ≤ 1000) (hv0 : -1000 ≤ p.vars) (hs : shortP p) (ss : List Sp) (hl : ss.length < 1000000) : acall T X 105 [progV p, .d (ssl ss)] [] = some (.d (.bool (forP p ss)), []) := by
  have k1 := c104 p hv hv0 hs
  have k2 := c48 p.wide ss hl
  simp only [progV, tsl, cmdsl, ssl] at k1 k2 ⊢
  cases hk : goodP p with
  | false =>
    rw [hk] at k1
    simp [e105, F105_c, k1]
    simp [fin, F105, forP, hk]
  | true =>
    rw [hk] at k1
    by_cases hv : (ss.length : Int) = p.vars
    · simp [e105, F105_c, k1, hv, k2]
      simp [fin, F105, forP, hk, hv]
    · simp [e105, F105_c, k1, hv]
      simp [fin, F105, forP, hv]
end Go.Proofs.YtplgdddfhjpojaaGreat.AM

namespace Go.Proofs.YtplgdddfhjpojaaGreat.AM
open Go

/-- What a change does to the intervals. -/
noncomputable def changeS (wide : Nat) (ss acc : List Sp) (x : Ch) : List Sp := acc.set x.1.toNat (joinS (acc.getD x.1.toNat (0#64, 0#64)) (spanT wide ss x.2))
noncomputable def cmdS (wide : Nat) (ss acc : List Sp) (c : Cmd) : List Sp := if (spanT wide ss c.1).2 = 0#64 then acc else c.2.foldl (changeS wide ss) acc
noncomputable def roundS (wide : Nat) (cs : List Cmd) (ss : List Sp) : List Sp := cs.foldl (cmdS wide ss) ss
@[simp] theorem changeS_len (wide : Nat) (ss acc : List Sp) (x : Ch) : (changeS wide ss acc x).length = acc.length := by simp [changeS]
theorem changesS_len (wide : Nat) (ss : List Sp) : ∀ (xs : List Ch) (acc : List Sp), (xs.foldl (changeS wide ss) acc).length = acc.length
  | [], _ => rfl
  | x :: xs, acc => by rw [List.foldl_cons, changesS_len wide ss xs, changeS_len]
theorem cmdS_len (wide : Nat) (ss acc : List Sp) (c : Cmd) : (cmdS wide ss acc c).length = acc.length := by
  unfold cmdS; split
  · rfl
  · exact changesS_len _ _ _ _
theorem roundS_len' (wide : Nat) (ss : List Sp) : ∀ (cs : List Cmd) (acc : List Sp), (cs.foldl (cmdS wide ss) acc).length = acc.length
  | [], _ => rfl
  | c :: cs, acc => by rw [List.foldl_cons, roundS_len' wide ss cs, cmdS_len]

/-- A change that can be walked. -/
def okCh (wide : Nat) (n : Nat) (x : Ch) : Prop := 0 ≤ x.1 ∧ x.1 < n ∧ goodT wide n x.2 = true
def okCmd (wide : Nat) (n : Nat) (c : Cmd) : Prop := goodT wide n c.1 = true ∧ (treeOf wide n c.1).kind = 2 ∧ c.2.length < 1000000 ∧ ∀ x ∈ c.2, okCh wide n x

theorem chsOk_ok {wide n : Nat} : ∀ {cs : List Ch} {prev : Int}, chsOk wide n prev cs = true → ∀ x ∈ cs, okCh wide n x
  | [], _, _, _, h => by simp at h
  | c :: cs, prev, h, x, hx => by
    simp only [chsOk, Bool.and_eq_true, decide_eq_true_eq] at h
    obtain ⟨⟨⟨⟨h1, h2⟩, _⟩, h3⟩, h4⟩ := h
    simp only [List.mem_cons] at hx
    rcases hx with rfl | hx
    · exact ⟨h1, h2, isK_good (by decide) h3⟩
    · exact chsOk_ok h4 x hx
theorem goodCmd_ok {wide n : Nat} {c : Cmd} (hs : shortC c) (h : goodCmd wide n c = true) : okCmd wide n c := by
  simp only [goodCmd, Bool.and_eq_true] at h
  exact ⟨isK_good (by decide) h.1, treeOf_kind (by decide) h.1, hs.2.1, chsOk_ok h.2⟩

theorem okSz_spans (ss : List Sp) : okSz 2 (ss.map spanC) = true := by
  simp [okSz, spanC]

section
variable (wide : Nat) (h1 : 1 ≤ wide) (hw : wide ≤ 64) (ss : List Sp) (hs : ∀ s ∈ ss, goodS wide s = true) (hl : ss.length < 1000)
include h1 hw hs hl

set_option maxHeartbeats 1000000 in
theorem c99_inner (d1 d2 d3 d4 d5 d6 : D) (chs : List Ch) (hlen : chs.length < 1000000) (hok : ∀ x ∈ chs, okCh wide ss.length x) (K : List AT) : ∀ (suf pre : List Ch) (acc : List Sp) (z : Int), chs = pre ++ suf → acc.length = ss.length → z = pre.length → ∀ R,
    go T X F99 0 K [(1, .d (ssl ss)), (2, .ptr 0 0 0 0), (5, .hs 1 2 0 ss.length), (13, .d d4), (14, .d d5), (15, .d d6), (28, .d (chsl chs)), (29, .d (.int .i64 chs.length)), (30, .d (.int .i64 chs.length)), (31, .d (.bool false))]
      [.box [.d (.int .i64 wide), .d d1, .d d2, .d d3], .arr 2 ((suf.foldl (changeS wide ss) acc).map spanC) true] = R →
    go T X F99 0 (.code F99_b0 :: .inLoop [(1, .keep), (2, .keep), (5, .keep), (13, .keep), (14, .keep), (15, .keep), (28, .keep), (29, .keep), (30, .keep)] F99_l0 :: .inBlock 2 :: K)
      [(1, .d (ssl ss)), (2, .ptr 0 0 0 0), (5, .hs 1 2 0 ss.length), (13, .d d4), (14, .d d5), (15, .d d6), (28, .d (chsl chs)), (29, .d (.int .i64 chs.length)), (30, .d (.int .i64 z))]
      [.box [.d (.int .i64 wide), .d d1, .d d2, .d d3], .arr 2 (acc.map spanC) true] = R := by
  intro suf
  induction suf with
  | nil =>
    intro pre acc z hx ha hz R hR
    subst hz
    have : chs.length = pre.length := by simp [hx]
    simp [ssl, chsl, this] at hR
    simp [F99_b0, this, ssl, chsl]
    exact hR
  | cons x suf ih =>
    intro pre acc z hx ha hz R hR
    subst hz
    obtain ⟨o1, o2, o3⟩ := hok x (by simp [hx])
    have q1 : pre.length < chs.length := by simp [hx]
    have q2 : chs[pre.length] = x := by simp [hx]
    obtain ⟨v, t⟩ := x
    simp only at o1 o2 o3
    obtain ⟨k, rfl⟩ : ∃ k : Nat, v = k := ⟨v.toNat, by omega⟩
    have q3 : k < ss.length := by omega
    have q4 : k < acc.length := by omega
    have kc := c37T wide h1 hw ss hs hl t o3
    have kj := c77 acc[k] (spanT wide ss t)
    have := ih (pre ++ [((k : Int), t)]) (changeS wide ss acc (k, t)) (wr ((pre.length : Int) + 1)) (by simp [hx]) (by simpa using ha) (by rw [wr_id (by omega) (by omega)]; simp) R hR
    have hch : (changeS wide ss acc (k, t)).map spanC = (acc.map spanC).set k (spanC (joinS acc[k] (spanT wide ss t))) := by
      simp [changeS, List.map_set, q4]
    rw [hch] at this
    simp [ssl, chsl, tsl, spanC] at this
    simp only [ssl, tsl, spV] at kc kj
    simp [F99_b0, q1, q2, ssl, chsl, chC, tsl, q3, q4, spanC, kc, kj]
    rw [go_inLoop]
    simp
    exact this

theorem spanT_zero {t : List Nd} (hg : goodT wide ss.length t = true) : (spanT wide ss t).2 = 0#64 ↔ spanT wide ss t = (0#64, 0#64) := by
  have hg := spanT_good wide h1 hw ss hs hl t hg
  simp only [goodS, Bool.and_eq_true, decide_eq_true_eq] at hg
  constructor
  · intro h
    rw [h, BitVec.le_def] at hg
    have : (spanT wide ss t).1 = 0#64 := by
      apply BitVec.eq_of_toNat_eq
      have := hg.2
      simp at this ⊢
      omega
    exact Prod.ext this h
  · intro h; rw [h]

theorem c99_outer (d1 d2 : D) (cs : List Cmd) (hlen : cs.length < 1000000) (hok : ∀ c ∈ cs, okCmd wide ss.length c) : ∀ (suf pre : List Cmd) (acc : List Sp) (z : Int), cs = pre ++ suf → acc.length = ss.length → z = pre.length →
    go T X F99 0 [.code F99_b1, .inLoop [(1, .keep), (2, .keep), (5, .keep), (13, .keep), (14, .keep), (15, .keep)] F99_l1, .inBlock 0, .code (.kp [(5, .keep)] F99_t1)]
      [(1, .d (ssl ss)), (2, .ptr 0 0 0 0), (5, .hs 1 2 0 ss.length), (13, .d (cmdsl cs)), (14, .d (.int .i64 cs.length)), (15, .d (.int .i64 z))]
      [.box [.d (.int .i64 wide), .d d1, .d d2, .d (cmdsl cs)], .arr 2 (acc.map spanC) true] =
    some (.d (ssl (suf.foldl (cmdS wide ss) acc)), []) := by
  intro suf
  induction suf with
  | nil =>
    intro pre acc z hx ha hz
    subst hz
    have : cs.length = pre.length := by simp [hx]
    have ht : List.take ss.length (List.map spanC acc) = List.map spanC acc := List.take_of_length_le (by simp [ha])
    simp [F99_b1, this, ssl, cmdsl, F99_t1]
    simp [fin, F99, ha, ht]
  | cons c suf ih =>
    intro pre acc z hx ha hz
    subst hz
    obtain ⟨o1, _, o2, o3⟩ := hok c (by simp [hx])
    have q1 : pre.length < cs.length := by simp [hx]
    have q2 : cs[pre.length] = c := by simp [hx]
    have kc := c37T wide h1 hw ss hs hl c.1 o1
    have kz := spanT_zero wide h1 hw ss hs hl o1
    have hn := ih (pre ++ [c]) (cmdS wide ss acc c) (wr ((pre.length : Int) + 1)) (by simp [hx]) (by rw [cmdS_len]; exact ha) (by rw [wr_id (by omega) (by omega)]; simp)
    simp only [ssl, tsl, cmdsl, spV] at kc
    by_cases h0 : (spanT wide ss c.1).2 = 0#64
    · have h0' := kz.1 h0
      have e1 : (spanT wide ss c.1).1 = 0#64 := by rw [h0']
      simp only [cmdS, h0, if_true] at hn
      simp [ssl, cmdsl] at hn
      simp [F99_b1, q1, q2, ssl, cmdsl, cmdC, tsl, chsl, kc, h0, e1, F99_t0]
      rw [go_inLoop]
      simp
      rw [hn]
      simp [cmdS, h0]
    · simp only [cmdS, h0, if_false] at hn
      have hin := c99_inner wide h1 hw ss hs hl d1 d2 (cmdsl cs) (cmdsl cs) (.int .i64 cs.length) (.int .i64 pre.length) c.2 o2 o3
        [.inBlock 1, .code (.kp [(1, .keep), (2, .keep), (5, .keep), (13, .keep), (14, .keep), (15, .keep)] F99_t0), .inLoop [(1, .keep), (2, .keep), (5, .keep), (13, .keep), (14, .keep), (15, .keep)] F99_l1, .inBlock 0, .code (.kp [(5, .keep)] F99_t1)]
        c.2 [] acc 0 rfl ha rfl
      have hR := hin (some (.d (ssl ((c :: suf).foldl (cmdS wide ss) acc)), [])) (by
        simp [F99_t0]
        rw [go_inLoop]
        simp
        rw [hn]
        simp [cmdS, h0])
      simp [ssl, chsl, cmdsl, tsl] at hR
      by_cases h0a : (spanT wide ss c.1).1 = 0#64
      all_goals
        simp [F99_b1, q1, q2, ssl, cmdsl, cmdC, tsl, chsl, kc, h0, h0a]
        rw [go_inLoop]
        simp
        exact hR

theorem c99 (vars : Int) (st : List Nd) (cs : List Cmd) (hlen : cs.length < 1000000) (hok : ∀ c ∈ cs, okCmd wide ss.length c) :
    acall T X 99 [progV ⟨wide, vars, st, cs⟩, .d (ssl ss)] [] = some (.d (ssl (roundS wide cs ss)), []) := by
  have hcl := clone98 (xs := ss.map spanC) (okSz_spans ss) (by simp only [List.length_map, maxApp]; omega)
  have := c99_outer wide h1 hw ss hs hl (.int .i64 vars) (tsl st) cs hlen hok cs [] ss 0 rfl rfl rfl
  simp only [ssl, progV, cmdsl, tsl] at this hcl ⊢
  simp [e99, F99_c, mcall, hcl]
  rw [go_inLoop]
  simp
  exact this
end
end Go.Proofs.YtplgdddfhjpojaaGreat.AM

namespace Go.Proofs.YtplgdddfhjpojaaGreat.AM
open Go

section
variable (wide : Nat) (h1 : 1 ≤ wide) (hw : wide ≤ 64) (ss : List Sp) (hs : ∀ s ∈ ss, goodS wide s = true) (hl : ss.length < 1000)
include h1 hw hs hl

set_option maxHeartbeats 1000000 in
theorem c106_inner (d1 d2 d3 d4 d5 d6 : D) (chs : List Ch) (hlen : chs.length < 1000000) (hok : ∀ x ∈ chs, okCh wide ss.length x) (K : List AT) : ∀ (suf pre : List Ch) (acc : List Sp) (z : Int), chs = pre ++ suf → acc.length = ss.length → z = pre.length → ∀ R,
    go T X F106 0 K [(1, .d (ssl ss)), (2, .ptr 0 0 0 0), (5, .hs 1 2 0 ss.length), (15, .d d4), (16, .d d5), (17, .d d6), (35, .d (chsl chs)), (36, .d (.int .i64 chs.length)), (37, .d (.int .i64 chs.length)), (38, .d (.bool false))]
      [.box [.d (.int .i64 wide), .d d1, .d d2, .d d3], .arr 2 ((suf.foldl (changeS wide ss) acc).map spanC) true] = R →
    go T X F106 0 (.code F106_b0 :: .inLoop [(1, .keep), (2, .keep), (5, .keep), (15, .keep), (16, .keep), (17, .keep), (35, .keep), (36, .keep), (37, .keep)] F106_l0 :: .inBlock 2 :: K)
      [(1, .d (ssl ss)), (2, .ptr 0 0 0 0), (5, .hs 1 2 0 ss.length), (15, .d d4), (16, .d d5), (17, .d d6), (35, .d (chsl chs)), (36, .d (.int .i64 chs.length)), (37, .d (.int .i64 z))]
      [.box [.d (.int .i64 wide), .d d1, .d d2, .d d3], .arr 2 (acc.map spanC) true] = R := by
  intro suf
  induction suf with
  | nil =>
    intro pre acc z hx ha hz R hR
    subst hz
    have : chs.length = pre.length := by simp [hx]
    simp [ssl, chsl, this] at hR
    simp [F106_b0, this, ssl, chsl]
    exact hR
  | cons x suf ih =>
    intro pre acc z hx ha hz R hR
    subst hz
    obtain ⟨o1, o2, o3⟩ := hok x (by simp [hx])
    have q1 : pre.length < chs.length := by simp [hx]
    have q2 : chs[pre.length] = x := by simp [hx]
    obtain ⟨v, t⟩ := x
    simp only at o1 o2 o3
    obtain ⟨k, rfl⟩ : ∃ k : Nat, v = k := ⟨v.toNat, by omega⟩
    have q3 : k < ss.length := by omega
    have q4 : k < acc.length := by omega
    have tl := goodT_len o3
    have hwt : wr ((t.length : Int) - 1) = (t.length : Int) - 1 := by rw [wr_id] <;> omega
    have kc := c55T wide h1 hw ss hs hl t o3 _ rfl
    have kj := c79 acc[k] (spanT wide ss t)
    have := ih (pre ++ [((k : Int), t)]) (changeS wide ss acc (k, t)) (wr ((pre.length : Int) + 1)) (by simp [hx]) (by simpa using ha) (by rw [wr_id (by omega) (by omega)]; simp) R hR
    have hch : (changeS wide ss acc (k, t)).map spanC = (acc.map spanC).set k (spanC (joinS acc[k] (spanT wide ss t))) := by
      simp [changeS, List.map_set, q4]
    rw [hch] at this
    simp [ssl, chsl, tsl, spanC] at this
    simp only [ssl, tsl, spV] at kc kj
    simp [F106_b0, q1, q2, ssl, chsl, chC, tsl, q3, q4, spanC, hwt, kc, kj]
    rw [go_inLoop]
    simp
    exact this

theorem c106_outer (d1 d2 : D) (cs : List Cmd) (hlen : cs.length < 1000000) (hok : ∀ c ∈ cs, okCmd wide ss.length c) : ∀ (suf pre : List Cmd) (acc : List Sp) (z : Int), cs = pre ++ suf → acc.length = ss.length → z = pre.length →
    go T X F106 0 [.code F106_b1, .inLoop [(1, .keep), (2, .keep), (5, .keep), (15, .keep), (16, .keep), (17, .keep)] F106_l1, .inBlock 0, .code (.kp [(5, .keep)] F106_t1)]
      [(1, .d (ssl ss)), (2, .ptr 0 0 0 0), (5, .hs 1 2 0 ss.length), (15, .d (cmdsl cs)), (16, .d (.int .i64 cs.length)), (17, .d (.int .i64 z))]
      [.box [.d (.int .i64 wide), .d d1, .d d2, .d (cmdsl cs)], .arr 2 (acc.map spanC) true] =
    some (.d (ssl (suf.foldl (cmdS wide ss) acc)), []) := by
  intro suf
  induction suf with
  | nil =>
    intro pre acc z hx ha hz
    subst hz
    have : cs.length = pre.length := by simp [hx]
    have ht : List.take ss.length (List.map spanC acc) = List.map spanC acc := List.take_of_length_le (by simp [ha])
    simp [F106_b1, this, ssl, cmdsl, F106_t1]
    simp [fin, F106, ha, ht]
  | cons c suf ih =>
    intro pre acc z hx ha hz
    subst hz
    obtain ⟨o1, _, o2, o3⟩ := hok c (by simp [hx])
    have q1 : pre.length < cs.length := by simp [hx]
    have q2 : cs[pre.length] = c := by simp [hx]
    have tl := goodT_len o1
    have hwt : wr ((c.1.length : Int) - 1) = (c.1.length : Int) - 1 := by rw [wr_id] <;> omega
    have kc := c55T wide h1 hw ss hs hl c.1 o1 _ rfl
    have hn := ih (pre ++ [c]) (cmdS wide ss acc c) (wr ((pre.length : Int) + 1)) (by simp [hx]) (by rw [cmdS_len]; exact ha) (by rw [wr_id (by omega) (by omega)]; simp)
    simp only [ssl, tsl, cmdsl, spV] at kc
    by_cases h0 : (spanT wide ss c.1).2 = 0#64
    · simp only [cmdS, h0, if_true] at hn
      simp [ssl, cmdsl] at hn
      simp [F106_b1, q1, q2, ssl, cmdsl, cmdC, tsl, chsl, hwt, kc, h0, F106_t0]
      rw [go_inLoop]
      simp
      rw [hn]
      simp [cmdS, h0]
    · simp only [cmdS, h0, if_false] at hn
      have hin := c106_inner wide h1 hw ss hs hl d1 d2 (cmdsl cs) (cmdsl cs) (.int .i64 cs.length) (.int .i64 pre.length) c.2 o2 o3
        [.inBlock 1, .code (.kp [(1, .keep), (2, .keep), (5, .keep), (15, .keep), (16, .keep), (17, .keep)] F106_t0), .inLoop [(1, .keep), (2, .keep), (5, .keep), (15, .keep), (16, .keep), (17, .keep)] F106_l1, .inBlock 0, .code (.kp [(5, .keep)] F106_t1)]
        c.2 [] acc 0 rfl ha rfl
      have hR := hin (some (.d (ssl ((c :: suf).foldl (cmdS wide ss) acc)), [])) (by
        simp [F106_t0]
        rw [go_inLoop]
        simp
        rw [hn]
        simp [cmdS, h0])
      simp [ssl, chsl, cmdsl, tsl] at hR
      simp [F106_b1, q1, q2, ssl, cmdsl, cmdC, tsl, chsl, hwt, kc, h0]
      rw [go_inLoop]
      simp
      exact hR

theorem c106 (vars : Int) (st : List Nd) (cs : List Cmd) (hlen : cs.length < 1000000) (hok : ∀ c ∈ cs, okCmd wide ss.length c) :
    acall T X 106 [progV ⟨wide, vars, st, cs⟩, .d (ssl ss)] [] = some (.d (ssl (roundS wide cs ss)), []) := by
  have := c106_outer wide h1 hw ss hs hl (.int .i64 vars) (tsl st) cs hlen hok cs [] ss 0 rfl rfl rfl
  have ho := okSz_spans ss
  have hm : ss.length ≤ maxApp := by simp only [maxApp]; omega
  simp only [ssl, progV, cmdsl, tsl] at this ⊢
  simp [e106, F106_c, spanC, hm]
  rw [go_inLoop]
  simp
  exact this
end
end Go.Proofs.YtplgdddfhjpojaaGreat.AM

namespace Go.Proofs.YtplgdddfhjpojaaGreat.AM
open Go

theorem c100_loop (a b : List Sp) (hab : a.length = b.length) (hl : a.length < 1000000) : ∀ (sa pa sb pb : List Sp) (z : Int), a = pa ++ sa → b = pb ++ sb → pa.length = pb.length → z = pa.length →
    go T X F100 0 [.code F100_b0, .inLoop [(0, .keep), (1, .keep), (12, .keep), (13, .keep)] F100_l0, .inBlock 0, .code (.kp [] F100_t0)]
      [(0, .d (ssl a)), (1, .d (ssl b)), (12, .d (.int .i64 a.length)), (13, .d (.int .i64 z))] [] = some (.d (.bool (decide (sa = sb))), []) := by
  intro sa
  induction sa with
  | nil =>
    intro pa sb pb z ha hb hp hz
    subst hz
    have h1 : a.length = pa.length := by simp [ha]
    have h2 : sb = [] := by
      have : b.length = pb.length + sb.length := by simp [hb]
      exact List.length_eq_zero_iff.1 (by omega)
    subst h2
    simp [F100_b0, h1, F100_t0, ssl]
    simp [fin, F100]
  | cons x sa ih =>
    intro pa sb pb z ha hb hp hz
    subst hz
    cases sb with
    | nil => exfalso; simp [ha, hb] at hab; omega
    | cons y sb =>
      have h1 : pa.length < a.length := by simp [ha]
      have h1' : pa.length < b.length := by omega
      have h2 : a[pa.length] = x := by simp [ha]
      have h3 : b[pa.length] = y := by simp [hb, hp]
      have := ih (pa ++ [x]) sb (pb ++ [y]) (wr ((pa.length : Int) + 1)) (by simp [ha]) (by simp [hb]) (by simp [hp]) (by rw [wr_id (by omega) (by omega)]; simp)
      simp only [ssl] at this
      by_cases e1 : x.1 = y.1
      · by_cases e2 : x.2 = y.2
        · have e : x = y := Prod.ext e1 e2
          simp [F100_b0, h1, h1', h2, h3, ssl, spanC, e1, e2]
          rw [go_inLoop]
          simp
          rw [this]
          simp [e]
        · have e : ¬ x = y := fun h => e2 (by rw [h])
          simp [F100_b0, h1, h1', h2, h3, ssl, spanC, e1, e2]
          simp [fin, F100, e]
      · have e : ¬ x = y := fun h => e1 (by rw [h])
        simp [F100_b0, h1, h1', h2, h3, ssl, spanC, e1]
        simp [fin, F100, e]

theorem c100 (a b : List Sp) (hab : a.length = b.length) (hl : a.length < 1000000) : acall T X 100 [.d (ssl a), .d (ssl b)] [] = some (.d (.bool (decide (a = b))), []) := by
  have := c100_loop a b hab hl a [] b [] 0 rfl rfl rfl rfl
  simp only [ssl] at this ⊢
  simp [e100, F100_c, hab]
  rw [go_inLoop]
  simp
  rw [← hab]
  exact this
theorem c108_loop (a b : List Sp) (hab : a.length = b.length) (hl : a.length < 1000000) : ∀ (sa pa sb pb : List Sp) (z : Int), a = pa ++ sa → b = pb ++ sb → pa.length = pb.length → z = pa.length →
    go T X F108 0 [.code F108_b0, .inLoop [(0, .keep), (1, .keep), (12, .keep), (13, .keep)] F108_l0, .inBlock 0, .code (.kp [] F108_t0)]
      [(0, .d (ssl a)), (1, .d (ssl b)), (12, .d (.int .i64 a.length)), (13, .d (.int .i64 z))] [] = some (.d (.bool (decide (sa = sb))), []) := by
  intro sa
  induction sa with
  | nil =>
    intro pa sb pb z ha hb hp hz
    subst hz
    have h1 : a.length = pa.length := by simp [ha]
    have h2 : sb = [] := by
      have : b.length = pb.length + sb.length := by simp [hb]
      exact List.length_eq_zero_iff.1 (by omega)
    subst h2
    simp [F108_b0, h1, F108_t0, ssl]
    simp [fin, F108]
  | cons x sa ih =>
    intro pa sb pb z ha hb hp hz
    subst hz
    cases sb with
    | nil => exfalso; simp [ha, hb] at hab; omega
    | cons y sb =>
      have h1 : pa.length < a.length := by simp [ha]
      have h1' : pa.length < b.length := by omega
      have h2 : a[pa.length] = x := by simp [ha]
      have h3 : b[pa.length] = y := by simp [hb, hp]
      have := ih (pa ++ [x]) sb (pb ++ [y]) (wr ((pa.length : Int) + 1)) (by simp [ha]) (by simp [hb]) (by simp [hp]) (by rw [wr_id (by omega) (by omega)]; simp)
      simp only [ssl] at this
      by_cases e1 : x.1 = y.1
      · by_cases e2 : x.2 = y.2
        · have e : x = y := Prod.ext e1 e2
          simp [F108_b0, h1, h1', h2, h3, ssl, spanC, e1, e2]
          rw [go_inLoop]
          simp
          rw [this]
          simp [e]
        · have e : ¬ x = y := fun h => e2 (by rw [h])
          simp [F108_b0, h1, h1', h2, h3, ssl, spanC, e1, e2]
          simp [fin, F108, e]
      · have e : ¬ x = y := fun h => e1 (by rw [h])
        simp [F108_b0, h1, h1', h2, h3, ssl, spanC, e1]
        simp [fin, F108, e]

theorem c108 (a b : List Sp) (hl : a.length < 1000000) : acall T X 108 [.d (ssl a), .d (ssl b)] [] = some (.d (.bool (decide (a = b))), []) := by
  by_cases hab : a.length = b.length
  · have := c108_loop a b hab hl a [] b [] 0 rfl rfl rfl rfl
    simp only [ssl] at this ⊢
    simp [e108, F108_c, hab]
    rw [go_inLoop]
    simp
    rw [← hab]
    exact this
  · have e : ¬ a = b := fun h => hab (by rw [h])
    have hab' : ¬ (a.length : Int) = b.length := by omega
    simp only [ssl]
    simp [e108, F108_c, hab']
    simp [fin, F108, e]
end Go.Proofs.YtplgdddfhjpojaaGreat.AM

namespace Go.Proofs.YtplgdddfhjpojaaGreat.AM
open Go

theorem joinS_good {wide : Nat} {a b : Sp} (ha : goodS wide a = true) (hb : goodS wide b = true) : goodS wide (joinS a b) = true := by
  simp only [goodS, gw, Bool.and_eq_true, decide_eq_true_eq, BitVec.le_def] at ha hb ⊢
  simp only [joinS, leastW_toNat, mostW_toNat]
  omega

section
variable (wide : Nat) (h1 : 1 ≤ wide) (hw : wide ≤ 64) (ss : List Sp) (hs : ∀ s ∈ ss, goodS wide s = true) (hl : ss.length < 1000)
include h1 hw hs hl

theorem changeS_good {acc : List Sp} (ha : acc.length = ss.length) (hg : ∀ s ∈ acc, goodS wide s = true) {x : Ch} (hx : okCh wide ss.length x) : ∀ s ∈ changeS wide ss acc x, goodS wide s = true := by
  obtain ⟨o1, o2, o3⟩ := hx
  have hk : x.1.toNat < acc.length := by omega
  intro s hm
  have hm := List.mem_or_eq_of_mem_set hm
  rcases hm with hm | hm
  · exact hg s hm
  · subst hm
    have e : acc.getD x.1.toNat (0#64, 0#64) = acc[x.1.toNat] := by simp [hk]
    rw [e]
    exact joinS_good (hg _ (List.getElem_mem _)) (spanT_good wide h1 hw ss hs hl _ o3)
theorem changesS_good : ∀ (xs : List Ch) (acc : List Sp), acc.length = ss.length → (∀ s ∈ acc, goodS wide s = true) → (∀ x ∈ xs, okCh wide ss.length x) → ∀ s ∈ xs.foldl (changeS wide ss) acc, goodS wide s = true
  | [], _, _, hg, _ => hg
  | x :: xs, acc, ha, hg, hx => changesS_good xs (changeS wide ss acc x) (by rw [changeS_len]; exact ha) (changeS_good wide h1 hw ss hs hl ha hg (hx x (by simp))) (fun y hy => hx y (by simp [hy]))
theorem roundS_good' : ∀ (cs : List Cmd) (acc : List Sp), acc.length = ss.length → (∀ s ∈ acc, goodS wide s = true) → (∀ c ∈ cs, okCmd wide ss.length c) → ∀ s ∈ cs.foldl (cmdS wide ss) acc, goodS wide s = true
  | [], _, _, hg, _ => hg
  | c :: cs, acc, ha, hg, hc => roundS_good' cs (cmdS wide ss acc c) (by rw [cmdS_len]; exact ha) (by
      unfold cmdS
      split
      · exact hg
      · exact changesS_good wide h1 hw ss hs hl c.2 acc ha hg (hc c (by simp)).2.2.2) (fun y hy => hc y (by simp [hy]))
end

/-- A program and intervals for it. -/
structure Fits (wide : Nat) (p : Pg) (ss : List Sp) : Prop where
  w1 : 1 ≤ wide
  w2 : wide ≤ 64
  pw : p.wide = wide
  pv : p.vars = ss.length
  l0 : 1 ≤ ss.length
  l1 : ss.length ≤ 4
  gs : ∀ s ∈ ss, goodS wide s = true
  gc : ∀ c ∈ p.cmds, okCmd wide ss.length c
  cl : p.cmds.length < 1000000
theorem forP_fits {p : Pg} (hs : shortP p) {ss : List Sp} (h : forP p ss = true) : ∃ wide, Fits wide p ss := by
  simp only [forP, goodP, goodSS, Bool.and_eq_true, decide_eq_true_eq, List.all_eq_true] at h
  obtain ⟨⟨⟨⟨⟨⟨⟨w1, w2⟩, _⟩, _⟩, _⟩, hc⟩, hv⟩, ⟨l0, l1⟩, hg⟩ := h
  obtain ⟨wide, hw⟩ : ∃ wide : Nat, p.wide = wide := ⟨p.wide.toNat, by omega⟩
  refine ⟨wide, by omega, by omega, hw, hv.symm, l0, l1, fun s hs => by rw [← hw]; exact hg s hs, fun c hcm => ?_, hs.2.1⟩
  have := hc c hcm
  rw [hw, ← hv] at this
  exact goodCmd_ok (hs.2.2 c hcm) this

theorem Fits.round {wide : Nat} {p : Pg} {ss : List Sp} (h : Fits wide p ss) : Fits wide p (roundS wide p.cmds ss) := by
  have hlen : (roundS wide p.cmds ss).length = ss.length := roundS_len' wide ss p.cmds ss
  have l1 := h.l1
  exact ⟨h.w1, h.w2, h.pw, by rw [hlen]; exact h.pv, by rw [hlen]; exact h.l0, by rw [hlen]; exact h.l1,
    roundS_good' wide h.w1 h.w2 ss h.gs (by omega) p.cmds ss rfl h.gs h.gc, by rw [hlen]; exact h.gc, h.cl⟩
theorem Fits.len {wide : Nat} {p : Pg} {ss : List Sp} (_ : Fits wide p ss) : (roundS wide p.cmds ss).length = ss.length := roundS_len' wide ss p.cmds ss
theorem Fits.forP {wide : Nat} {p : Pg} {ss : List Sp} (h : Fits wide p ss) (hg : goodP p = true) : forP p ss = true := by
  simp only [AM.forP, goodSS, Bool.and_eq_true, decide_eq_true_eq, List.all_eq_true]
  exact ⟨⟨hg, h.pv.symm⟩, ⟨h.l0, h.l1⟩, fun s hs => by rw [h.pw]; exact h.gs s hs⟩

theorem Fits.c99 {wide : Nat} {p : Pg} {ss : List Sp} (h : Fits wide p ss) : acall T X 99 [progV p, .d (ssl ss)] [] = some (.d (ssl (roundS wide p.cmds ss)), []) := by
  have l1 := h.l1
  have := AM.c99 wide h.w1 h.w2 ss h.gs (by omega) p.vars p.start p.cmds h.cl h.gc
  have e : (⟨(wide : Int), p.vars, p.start, p.cmds⟩ : Pg) = p := by rw [← h.pw]
  rw [e] at this
  exact this
theorem Fits.c106 {wide : Nat} {p : Pg} {ss : List Sp} (h : Fits wide p ss) : acall T X 106 [progV p, .d (ssl ss)] [] = some (.d (ssl (roundS wide p.cmds ss)), []) := by
  have l1 := h.l1
  have := AM.c106 wide h.w1 h.w2 ss h.gs (by omega) p.vars p.start p.cmds h.cl h.gc
  have e : (⟨(wide : Int), p.vars, p.start, p.cmds⟩ : Pg) = p := by rw [← h.pw]
  rw [e] at this
  exact this

/-- Rounds, one after the other. -/
noncomputable def roundsS (wide : Nat) (cs : List Cmd) : Nat → List Sp → List Sp
  | 0, ss => ss
  | n + 1, ss => roundsS wide cs n (roundS wide cs ss)
theorem Fits.rounds {wide : Nat} {p : Pg} : ∀ (n : Nat) {ss : List Sp}, Fits wide p ss → Fits wide p (roundsS wide p.cmds n ss)
  | 0, _, h => h
  | n + 1, _, h => Fits.rounds n h.round
end Go.Proofs.YtplgdddfhjpojaaGreat.AM

namespace Go.Proofs.YtplgdddfhjpojaaGreat.AM
open Go

def badR : AV := .tup [.d (ssl []), .d (.bool false), .d (.bool false)]
noncomputable def settleR (wide : Nat) (cs : List Cmd) (res : List Sp) : AV := .tup [.d (ssl res), .d (.bool (decide (roundS wide cs res = res))), .d (.bool true)]

theorem c101_bad (p : Pg) (hs : shortP p) (ss : List Sp) (hl : ss.length < 1000000) (n : Int) (h : forP p ss = false ∨ n < 0 ∨ 20 < n) :
    acall T X 101 [progV p, .d (ssl ss), .d (.int .i64 n)] [] = some (badR, []) := by
  have k1 := c97 p hs ss hl
  simp only [progV, tsl, cmdsl, ssl] at k1 ⊢
  cases hk : forP p ss with
  | false =>
    rw [hk] at k1
    simp [e101, F101_c, k1]
    simp [fin, F101, badR, ssl]
  | true =>
    rw [hk] at k1
    by_cases h1 : n < 0
    · simp [e101, F101_c, k1, h1]
      simp [fin, F101, badR, ssl]
    · have h2 : 20 < n := by
        rcases h with h | h | h
        · rw [hk] at h; cases h
        · exact absurd h h1
        · exact h
      simp [e101, F101_c, k1, h1, h2]
      simp [fin, F101, badR, ssl]

theorem F101_end {wide : Nat} {p : Pg} {acc : List Sp} (hf : Fits wide p acc) : go T X F101 0 [.code F101_t0] [(3, .ptr 0 0 0 0), (9, .d (ssl acc))] [.box [.d (.int .i64 p.wide), .d (.int .i64 p.vars), .d (tsl p.start), .d (cmdsl p.cmds)]] =
    some (settleR wide p.cmds acc, []) := by
  have k1 := hf.c99
  have k2 := c100 (roundS wide p.cmds acc) acc hf.len (by have := hf.l1; have := hf.len; omega)
  simp only [progV, tsl, cmdsl, ssl] at k1 k2 ⊢
  simp [F101_t0, mcall, k1, k2]
  simp [fin, F101, settleR, ssl]

theorem c101_loop {wide : Nat} {p : Pg} (n : Nat) (hn : n < 1000) : ∀ (k : Nat) (acc : List Sp) (z : Int), z + k = n → 0 ≤ z → Fits wide p acc →
    go T X F101 0 [.code F101_b0, .inLoop [(3, .keep), (9, .keep), (24, .keep), (25, .keep)] F101_l0, .inBlock 0, .code (.kp [(3, .keep), (9, .keep)] F101_t0)]
      [(3, .ptr 0 0 0 0), (9, .d (ssl acc)), (24, .d (.int .i64 n)), (25, .d (.int .i64 z))] [.box [.d (.int .i64 p.wide), .d (.int .i64 p.vars), .d (tsl p.start), .d (cmdsl p.cmds)]] =
    some (settleR wide p.cmds (roundsS wide p.cmds k acc), []) := by
  intro k
  induction k with
  | zero =>
    intro acc z hz h0 hf
    have : z = n := by omega
    subst this
    have := F101_end hf
    simp only [tsl, cmdsl, ssl] at this ⊢
    simp [F101_b0]
    exact this
  | succ k ih =>
    intro acc z hz h0 hf
    have h1 : z < n := by omega
    have hw : wr (z + 1) = z + 1 := by rw [wr_id] <;> omega
    have k1 := hf.c99
    have := ih (roundS wide p.cmds acc) (z + 1) (by omega) (by omega) hf.round
    simp only [progV, tsl, cmdsl, ssl] at k1 this ⊢
    simp [F101_b0, h1, mcall, k1, hw]
    rw [go_inLoop]
    simp
    rw [this]
    rfl

theorem c101_good {wide : Nat} {p : Pg} (hs : shortP p) {ss : List Sp} (hf : Fits wide p ss) (hp : forP p ss = true) (n : Nat) (hn : n ≤ 20) :
    acall T X 101 [progV p, .d (ssl ss), .d (.int .i64 n)] [] = some (settleR wide p.cmds (roundsS wide p.cmds n ss), []) := by
  have hl := hf.l1
  have k1 := c97 p hs ss (by omega)
  rw [hp] at k1
  have hn1 : ¬ (n : Int) < 0 := by omega
  have hn2 : ¬ (20 : Int) < n := by omega
  have hcl := clone98 (xs := ss.map spanC) (okSz_spans ss) (by simp only [List.length_map, maxApp]; omega)
  have k2 := hf.c99
  have ht : List.take ss.length (List.map spanC ss) = List.map spanC ss := List.take_of_length_le (by simp)
  cases n with
  | zero =>
    have k3 := c100 (roundS wide p.cmds ss) ss hf.len (by have := hf.l1; have := hf.len; omega)
    simp only [progV, tsl, cmdsl, ssl] at k1 k2 k3 hcl ⊢
    simp [e101, F101_c, k1, mcall, hcl]
    rw [go_inLoop]
    simp [F101_b0, F101_t0, mcall, ht, k2, k3]
    simp [fin, F101, settleR, ssl, roundsS, ht]
    exact decide_eq_decide.2 Iff.rfl
  | succ n =>
    have := c101_loop (wide := wide) (p := p) (n + 1) (by omega) n (roundS wide p.cmds ss) 1 (by omega) (by omega) hf.round
    obtain ⟨m, hm⟩ : ∃ m, m = n + 1 := ⟨_, rfl⟩
    rw [← hm] at hn1 hn2 this ⊢
    have h1 : 0 < m := by omega
    simp only [progV, tsl, cmdsl, ssl] at k1 k2 hcl this ⊢
    simp [e101, F101_c, k1, mcall, hcl, hn1, hn2]
    rw [go_inLoop]
    simp [F101_b0, h1, mcall, ht, k2]
    rw [go_inLoop]
    simp
    rw [show wr 1 = 1 from rfl]
    rw [this, hm]
    rfl
end Go.Proofs.YtplgdddfhjpojaaGreat.AM

namespace Go.Proofs.YtplgdddfhjpojaaGreat.AM
open Go

theorem c107_end (a b : List Sp) (hab : a.length = b.length) (hl : a.length < 1000000) : ∀ (sa pa sb pb : List Sp) (z : Int) (f : Bool), a = pa ++ sa → b = pb ++ sb → pa.length = pb.length → z = pa.length →
    go T X F107 0 [.code F107_b1, .inLoop [(9, .keep), (10, .keep), (34, .keep), (35, .keep), (36, .keep)] F107_l1, .inBlock 2, .code (.kp [(9, .keep), (10, .keep)] F107_t0)]
      [(9, .d (ssl b)), (10, .d (.bool f)), (34, .d (ssl a)), (35, .d (.int .i64 a.length)), (36, .d (.int .i64 z))] [] = some (.tup [.d (ssl b), .d (.bool (f && decide (sa = sb))), .d (.bool true)], []) := by
  intro sa
  induction sa with
  | nil =>
    intro pa sb pb z f ha hb hp hz
    subst hz
    have h1 : a.length = pa.length := by simp [ha]
    have h2 : sb = [] := by
      have : b.length = pb.length + sb.length := by simp [hb]
      exact List.length_eq_zero_iff.1 (by omega)
    subst h2
    have ht : List.take b.length (List.map spanC b) = List.map spanC b := List.take_of_length_le (by simp)
    simp [F107_b1, h1, F107_t0, ssl]
    simp [fin, F107, ht]
  | cons x sa ih =>
    intro pa sb pb z f ha hb hp hz
    subst hz
    cases sb with
    | nil => exfalso; simp [ha, hb] at hab; omega
    | cons y sb =>
      have h1 : pa.length < a.length := by simp [ha]
      have h1' : pa.length < b.length := by omega
      have h2 : a[pa.length] = x := by simp [ha]
      have h3 : b[pa.length] = y := by simp [hb, hp]
      have := fun f' => ih (pa ++ [x]) sb (pb ++ [y]) (wr ((pa.length : Int) + 1)) f' (by simp [ha]) (by simp [hb]) (by simp [hp]) (by rw [wr_id (by omega) (by omega)]; simp)
      simp only [ssl] at this
      cases f with
      | false =>
        simp [F107_b1, h1, h1', h2, h3, ssl, spanC]
        rw [go_inLoop]
        simp
        rw [this]
        simp
      | true =>
        by_cases e1 : x.1 = y.1
        · by_cases e2 : x.2 = y.2
          · have e : x = y := Prod.ext e1 e2
            simp [F107_b1, h1, h1', h2, h3, ssl, spanC, e1, e2]
            rw [go_inLoop]
            simp
            rw [this]
            simp [e]
          · have e : ¬ x = y := fun h => e2 (by rw [h])
            simp [F107_b1, h1, h1', h2, h3, ssl, spanC, e1, e2]
            rw [go_inLoop]
            simp
            rw [this]
            simp [e, e2]
        · have e : ¬ x = y := fun h => e1 (by rw [h])
          simp [F107_b1, h1, h1', h2, h3, ssl, spanC, e1]
          rw [go_inLoop]
          simp
          rw [this]
          simp [e, e1]

theorem c107_endO (a b : List Sp) (hab : a.length = b.length) (hl : a.length < 1000000) : ∀ (sa pa sb pb : List Sp) (z : Int) (f : Bool), a = pa ++ sa → b = pb ++ sb → pa.length = pb.length → z = pa.length →
    go T X F107 0 [.code F107_b1, .inLoop [(9, .keep), (10, .keep), (34, .keep), (35, .keep), (36, .keep)] F107_l1, .inBlock 2, .code (.kp [(9, .keep), (10, .keep)] F107_t0)]
      [(9, .hs 0 2 0 b.length), (10, .d (.bool f)), (34, .d (ssl a)), (35, .d (.int .i64 a.length)), (36, .d (.int .i64 z))] [.arr 2 (b.map spanC) false] = some (.tup [.d (ssl b), .d (.bool (f && decide (sa = sb))), .d (.bool true)], []) := by
  intro sa
  induction sa with
  | nil =>
    intro pa sb pb z f ha hb hp hz
    subst hz
    have h1 : a.length = pa.length := by simp [ha]
    have h2 : sb = [] := by
      have : b.length = pb.length + sb.length := by simp [hb]
      exact List.length_eq_zero_iff.1 (by omega)
    subst h2
    have ht : List.take b.length (List.map spanC b) = List.map spanC b := List.take_of_length_le (by simp)
    simp [F107_b1, h1, F107_t0, ssl]
    simp [fin, F107, ht]
  | cons x sa ih =>
    intro pa sb pb z f ha hb hp hz
    subst hz
    cases sb with
    | nil => exfalso; simp [ha, hb] at hab; omega
    | cons y sb =>
      have h1 : pa.length < a.length := by simp [ha]
      have h1' : pa.length < b.length := by omega
      have h2 : a[pa.length] = x := by simp [ha]
      have h3 : b[pa.length] = y := by simp [hb, hp]
      have := fun f' => ih (pa ++ [x]) sb (pb ++ [y]) (wr ((pa.length : Int) + 1)) f' (by simp [ha]) (by simp [hb]) (by simp [hp]) (by rw [wr_id (by omega) (by omega)]; simp)
      simp only [ssl] at this
      cases f with
      | false =>
        simp [F107_b1, h1, h1', h2, h3, ssl, spanC]
        rw [go_inLoop]
        simp
        rw [this]
        simp
      | true =>
        by_cases e1 : x.1 = y.1
        · by_cases e2 : x.2 = y.2
          · have e : x = y := Prod.ext e1 e2
            simp [F107_b1, h1, h1', h2, h3, ssl, spanC, e1, e2]
            rw [go_inLoop]
            simp
            rw [this]
            simp [e]
          · have e : ¬ x = y := fun h => e2 (by rw [h])
            simp [F107_b1, h1, h1', h2, h3, ssl, spanC, e1, e2]
            rw [go_inLoop]
            simp
            rw [this]
            simp [e, e2]
        · have e : ¬ x = y := fun h => e1 (by rw [h])
          simp [F107_b1, h1, h1', h2, h3, ssl, spanC, e1]
          rw [go_inLoop]
          simp
          rw [this]
          simp [e, e1]

theorem c107_bad (p : Pg) (hv : p.vars ≤ 1000) (hv0 : -1000 ≤ p.vars) (hs : shortP p) (ss : List Sp) (hl : ss.length < 1000000) (n : Int) (h : forP p ss = false ∨ n < 0 ∨ 20 < n) :
    acall T X 107 [progV p, .d (ssl ss), .d (.int .i64 n)] [] = some (badR, []) := by
  have k1 := c105 p hv hv0 hs ss hl
  simp only [progV, tsl, cmdsl, ssl] at k1 ⊢
  cases hk : forP p ss with
  | false =>
    rw [hk] at k1
    simp [e107, F107_c, k1]
    simp [fin, F107, badR, ssl]
  | true =>
    rw [hk] at k1
    by_cases h1 : 0 ≤ n
    · have h2 : ¬ n ≤ 20 := by
        rcases h with h | h | h
        · rw [hk] at h; cases h
        · omega
        · omega
      simp [e107, F107_c, k1, c39, h1, h2]
      simp [fin, F107, badR, ssl]
    · simp [e107, F107_c, k1, c39, h1]
      simp [fin, F107, badR, ssl]

theorem F107_endD {wide : Nat} {p : Pg} {acc : List Sp} (hf : Fits wide p acc) : go T X F107 0 [.code F107_t1] [(3, .ptr 0 0 0 0), (9, .d (ssl acc))] [.box [.d (.int .i64 p.wide), .d (.int .i64 p.vars), .d (tsl p.start), .d (cmdsl p.cmds)]] =
    some (settleR wide p.cmds acc, []) := by
  have k1 := hf.c106
  have k2 := c107_end (roundS wide p.cmds acc) acc hf.len (by have := hf.l1; have := hf.len; omega) (roundS wide p.cmds acc) [] acc [] 0 true rfl rfl rfl rfl
  simp only [progV, tsl, cmdsl, ssl] at k1 k2 ⊢
  simp [F107_t1, mcall, k1]
  rw [go_inLoop]
  simp
  simp at k2
  rw [k2]
  rfl

theorem c107_loop {wide : Nat} {p : Pg} : ∀ (k : Nat) (hk : k < 1000) (acc : List Sp), Fits wide p acc →
    go T X F107 0 [.code F107_b0, .inLoop [(2, .keep), (3, .keep), (9, .keep)] F107_l0, .inBlock 0, .code (.kp [(3, .keep), (9, .keep)] F107_t1)]
      [(2, .d (.int .i64 k)), (3, .ptr 0 0 0 0), (9, .d (ssl acc))] [.box [.d (.int .i64 p.wide), .d (.int .i64 p.vars), .d (tsl p.start), .d (cmdsl p.cmds)]] =
    some (settleR wide p.cmds (roundsS wide p.cmds k acc), []) := by
  intro k
  induction k with
  | zero =>
    intro hk acc hf
    have := F107_endD hf
    simp only [tsl, cmdsl, ssl] at this ⊢
    simp [F107_b0]
    exact this
  | succ k ih =>
    intro hk acc hf
    have hw : wr (k : Int) = k := by rw [wr_id] <;> omega
    have h0 : (0 : Int) < (k : Int) + 1 := by omega
    have k1 := hf.c106
    have := ih (by omega) (roundS wide p.cmds acc) hf.round
    simp only [progV, tsl, cmdsl, ssl] at k1 this ⊢
    simp [F107_b0, h0, mcall, k1, hw]
    rw [go_inLoop]
    simp
    rw [this]
    rfl

theorem c107_good {wide : Nat} {p : Pg} (hs : shortP p) {ss : List Sp} (hf : Fits wide p ss) (hp : forP p ss = true) (n : Nat) (hn : n ≤ 20) :
    acall T X 107 [progV p, .d (ssl ss), .d (.int .i64 n)] [] = some (settleR wide p.cmds (roundsS wide p.cmds n ss), []) := by
  have hl := hf.l1
  have k1 := c105 p (by rw [hf.pv]; omega) (by rw [hf.pv]; omega) hs ss (by omega)
  rw [hp] at k1
  have hn2 : (n : Int) ≤ 20 := by omega
  have hm : ss.length ≤ maxApp := by simp only [maxApp]; omega
  have k2 := hf.c106
  have ht : List.take ss.length (List.map spanC ss) = List.map spanC ss := List.take_of_length_le (by simp)
  cases n with
  | zero =>
    have k3 := c107_endO (roundS wide p.cmds ss) ss hf.len (by have := hf.l1; have := hf.len; omega) (roundS wide p.cmds ss) [] ss [] 0 true rfl rfl rfl rfl
    simp only [progV, tsl, cmdsl, ssl] at k1 k2 k3 ⊢
    simp [e107, F107_c, k1, c39, spanC, hm]
    rw [go_inLoop]
    simp [F107_b0, F107_t1, mcall, ht, k2]
    rw [go_inLoop]
    simp
    simp at k3
    rw [k3]
    rfl
  | succ n =>
    have := c107_loop (wide := wide) (p := p) n (by omega) (roundS wide p.cmds ss) hf.round
    have hw : wr (n : Int) = n := by rw [wr_id] <;> omega
    have h0 : (0 : Int) < (n : Int) + 1 := by omega
    have h0' : (0 : Int) ≤ (n : Int) + 1 := by omega
    have hn3 : (n : Int) + 1 ≤ 20 := by omega
    simp only [progV, tsl, cmdsl, ssl] at k1 k2 this ⊢
    simp [e107, F107_c, k1, c39, spanC, hm, h0', hn3]
    rw [go_inLoop]
    simp [F107_b0, h0, mcall, ht, k2, hw]
    rw [go_inLoop]
    simp
    rw [this]
    rfl

theorem c109_bad (p : Pg) (hs : shortP p) (ss : List Sp) (hl : ss.length < 1000000) (h : forP p ss = false) :
    acall T X 109 [progV p, .d (ssl ss)] [] = some (.tup [.d (ssl []), .d (.bool false)], []) := by
  have k1 := c97 p hs ss hl
  rw [h] at k1
  simp only [progV, tsl, cmdsl, ssl] at k1 ⊢
  simp [e109, F109_c, k1]
  simp [fin, F109]
theorem c109_good {wide : Nat} {p : Pg} (hs : shortP p) {ss : List Sp} (hf : Fits wide p ss) (hp : forP p ss = true) :
    acall T X 109 [progV p, .d (ssl ss)] [] = some (.tup [.d (ssl (roundS wide p.cmds ss)), .d (.bool true)], []) := by
  have hl := hf.l1
  have k1 := c97 p hs ss (by omega)
  have k2 := hf.c99
  rw [hp] at k1
  simp only [progV, tsl, cmdsl, ssl] at k1 k2 ⊢
  simp [e109, F109_c, k1, mcall, k2]
  simp [fin, F109]
theorem c117_bad (p : Pg) (hv : p.vars ≤ 1000) (hv0 : -1000 ≤ p.vars) (hs : shortP p) (ss : List Sp) (hl : ss.length < 1000000) (h : forP p ss = false) :
    acall T X 117 [progV p, .d (ssl ss)] [] = some (.tup [.d (ssl []), .d (.bool false)], []) := by
  have k1 := c105 p hv hv0 hs ss hl
  rw [h] at k1
  simp only [progV, tsl, cmdsl, ssl] at k1 ⊢
  simp [e117, F117_c, k1]
  simp [fin, F117]
theorem c117_good {wide : Nat} {p : Pg} (hs : shortP p) {ss : List Sp} (hf : Fits wide p ss) (hp : forP p ss = true) :
    acall T X 117 [progV p, .d (ssl ss)] [] = some (.tup [.d (ssl (roundS wide p.cmds ss)), .d (.bool true)], []) := by
  have hl := hf.l1
  have k1 := c105 p (by rw [hf.pv]; omega) (by rw [hf.pv]; omega) hs ss (by omega)
  have k2 := hf.c106
  rw [hp] at k1
  simp only [progV, tsl, cmdsl, ssl] at k1 k2 ⊢
  simp [e117, F117_c, k1, mcall, k2]
  simp [fin, F117]
end Go.Proofs.YtplgdddfhjpojaaGreat.AM

namespace Go.Proofs.YtplgdddfhjpojaaGreat.AM
open Go

theorem c110 (p : Pg) (hs : shortP p) (ws : List (BitVec 64)) (hl : ws.length < 1000000) : acall T X 110 [progV p, .d (wordsD ws)] [] = some (.d (.bool (goodP p && stateOk p.wide p.vars ws)), []) := by
  have k1 := c96 p hs
  have k2 := c61 p.wide p.vars ws hl
  simp only [progV, tsl, cmdsl, wordsD] at k1 k2 ⊢
  cases hk : goodP p with
  | false =>
    rw [hk] at k1
    simp [e110, F110_c, k1]
    simp [fin, F110]
  | true =>
    rw [hk] at k1
    simp [e110, F110_c, k1, k2]
    simp [fin, F110]

theorem c111 (p : Pg) (k : Int) : acall T X 111 [progV p, .d (.int .i64 k)] [] = some (.d (.bool (decide (0 ≤ k) && decide (k < p.cmds.length))), []) := by
  simp only [progV, tsl, cmdsl]
  by_cases h : 0 ≤ k
  · simp [e111, F111_c, h]
    simp [fin, F111]
  · simp [e111, F111_c, h]
    simp [fin, F111]

/-- What a command's changes make of a state. -/
noncomputable def changeW (wide n : Nat) (ws acc : List (BitVec 64)) (x : Ch) : List (BitVec 64) := acc.set x.1.toNat (valT wide n ws x.2)
@[simp] theorem changeW_len (wide n : Nat) (ws acc : List (BitVec 64)) (x : Ch) : (changeW wide n ws acc x).length = acc.length := by simp [changeW]

section
variable (wide : Nat) (h1 : 1 ≤ wide) (hw : wide ≤ 64) (ss : List Sp) (hs : ∀ s ∈ ss, goodS wide s = true) (hl : ss.length < 1000) (ws : List (BitVec 64)) (hlen : ws.length = ss.length) (hin : within ss ws = true)
include h1 hw hs hl hlen hin

theorem c112 (p : Pg) (hpw : p.wide = wide) (t : List Nd) (hg : goodT wide ss.length t = true) : acall T X 112 [progV p, .d (tsl t), .d (wordsD ws)] [] = some (.d (.bool (decide (valT wide ss.length ws t = 1#64))), []) := by
  have k := c73T wide h1 hw ss hs hl t hg ws hlen hin
  simp only [progV, hpw, tsl, cmdsl, wordsD] at k ⊢
  simp [e112, F112_c, k]
  simp [fin, F112]
  rfl

theorem c114_loop (d1 d2 d3 : D) (chs : List Ch) (hcl : chs.length < 1000000) (hok : ∀ x ∈ chs, okCh wide ss.length x) : ∀ (suf pre : List Ch) (acc : List (BitVec 64)) (z : Int), chs = pre ++ suf → acc.length = ss.length → z = pre.length →
    go T X F114 0 [.code F114_b0, .inLoop [(2, .keep), (3, .keep), (7, .keep), (13, .keep), (14, .keep), (15, .keep)] F114_l0, .inBlock 0, .code (.kp [(7, .keep)] F114_t0)]
      [(2, .d (wordsD ws)), (3, .ptr 0 0 0 0), (7, .hs 1 1 0 ss.length), (13, .d (chsl chs)), (14, .d (.int .i64 chs.length)), (15, .d (.int .i64 z))]
      [.box [.d (.int .i64 wide), .d d1, .d d2, .d d3], .arr 1 (acc.map fun w => [.w w]) true] = some (.d (wordsD (suf.foldl (changeW wide ss.length ws) acc)), []) := by
  intro suf
  induction suf with
  | nil =>
    intro pre acc z hx ha hz
    subst hz
    have : chs.length = pre.length := by simp [hx]
    have ht : List.take ss.length (acc.map fun w => [D.w w]) = acc.map fun w => [D.w w] := List.take_of_length_le (by simp [ha])
    simp [F114_b0, this, chsl, wordsD, F114_t0]
    simp [fin, F114, ha, ht]
  | cons x suf ih =>
    intro pre acc z hx ha hz
    subst hz
    obtain ⟨o1, o2, o3⟩ := hok x (by simp [hx])
    have q1 : pre.length < chs.length := by simp [hx]
    have q2 : chs[pre.length] = x := by simp [hx]
    obtain ⟨v, t⟩ := x
    simp only at o1 o2 o3
    obtain ⟨k, rfl⟩ : ∃ k : Nat, v = k := ⟨v.toNat, by omega⟩
    have q3 : k < ss.length := by omega
    have q4 : k < acc.length := by omega
    have kc := c73T wide h1 hw ss hs hl t o3 ws hlen hin
    have := ih (pre ++ [((k : Int), t)]) (changeW wide ss.length ws acc (k, t)) (wr ((pre.length : Int) + 1)) (by simp [hx]) (by simpa using ha) (by rw [wr_id (by omega) (by omega)]; simp)
    have hch : (changeW wide ss.length ws acc (k, t)).map (fun w => [D.w w]) = (acc.map fun w => [D.w w]).set k [D.w (valT wide ss.length ws t)] := by
      simp [changeW, List.map_set]
    rw [hch] at this
    simp [wordsD, chsl, tsl] at this
    simp only [wordsD, tsl] at kc
    simp [F114_b0, q1, q2, wordsD, chsl, chC, tsl, q3, q4, kc]
    rw [go_inLoop]
    simp
    exact this

theorem c114 (p : Pg) (hpw : p.wide = wide) (c : Cmd) (hc : okCmd wide ss.length c) : acall T X 114 [progV p, cmdV c, .d (wordsD ws)] [] = some (.d (wordsD (c.2.foldl (changeW wide ss.length ws) ws)), []) := by
  have hcl := clone113 (xs := ws.map fun w => [D.w w]) (by simp [okSz]) (by simp only [List.length_map, maxApp]; omega)
  have := c114_loop wide h1 hw ss hs hl ws hlen hin (.int .i64 p.vars) (tsl p.start) (cmdsl p.cmds) c.2 hc.2.2.1 hc.2.2.2 c.2 [] ws 0 rfl hlen rfl
  simp only [progV, cmdV, hpw, tsl, chsl, cmdsl, wordsD] at this hcl ⊢
  simp [e114, F114_c, mcall, hcl]
  rw [go_inLoop]
  simp [hlen]
  exact this
end
end Go.Proofs.YtplgdddfhjpojaaGreat.AM

namespace Go.Proofs.YtplgdddfhjpojaaGreat.AM
open Go

theorem within_state {wide : Nat} (h1 : 1 ≤ wide) (hw : wide ≤ 64) : ∀ {ss : List Sp} {ws : List (BitVec 64)}, (∀ s ∈ ss, goodS wide s = true) → ws.length = ss.length → within ss ws = true → ∀ w ∈ ws, gw wide w = true
  | [], ws, _, hl, _ => by
    have : ws = [] := List.length_eq_zero_iff.1 (by simpa using hl)
    subst this; simp
  | _ :: _, [], _, hl, _ => by simp at hl
  | s :: ss, w :: ws, hs, hl, hin => by
    simp only [within, Bool.and_eq_true] at hin
    intro x hx
    simp only [List.mem_cons] at hx
    rcases hx with rfl | hx
    · have hg := hs s (by simp)
      have hh := hin.1
      simp only [goodS, gw, hasS, Bool.and_eq_true, decide_eq_true_eq, BitVec.le_def] at hg hh ⊢
      omega
    · exact within_state h1 hw (fun s hs' => hs s (by simp [hs'])) (by simpa using hl) hin.2 x hx

theorem Fits.state {wide : Nat} {p : Pg} {ss : List Sp} (h : Fits wide p ss) {ws : List (BitVec 64)} (hlen : ws.length = ss.length) (hin : within ss ws = true) : stateOk p.wide p.vars ws = true := by
  have w1 := h.w1
  have w2 := h.w2
  have l0 := h.l0
  have l1 := h.l1
  simp only [stateOk, Bool.and_eq_true, decide_eq_true_eq, List.all_eq_true, h.pw, h.pv]
  exact ⟨⟨⟨by omega, by omega⟩, by omega⟩, within_state w1 w2 h.gs hlen hin⟩

noncomputable def stepR (wide n : Nat) (c : Cmd) (ws : List (BitVec 64)) : AV :=
  if valT wide n ws c.1 = 1#64 then .tup [.d (wordsD (c.2.foldl (changeW wide n ws) ws)), .d (.bool true)] else .tup [.d (wordsD []), .d (.bool false)]

theorem c115 {wide : Nat} {p : Pg} (hs : shortP p) (hgp : goodP p = true) {ss : List Sp} (hf : Fits wide p ss) (ws : List (BitVec 64)) (hlen : ws.length = ss.length) (hin : within ss ws = true) (k : Nat) (hk : k < p.cmds.length) :
    acall T X 115 [progV p, .d (wordsD ws), .d (.int .i64 k)] [] = some (stepR wide ss.length p.cmds[k] ws, []) := by
  have l1 := hf.l1
  have k1 := c110 p hs ws (by omega)
  rw [hgp, hf.state hlen hin] at k1
  have k2 := c111 p k
  have hc := hf.gc p.cmds[k] (List.getElem_mem _)
  have k3 := c112 wide hf.w1 hf.w2 ss hf.gs (by omega) ws hlen hin p hf.pw p.cmds[k].1 hc.1
  have k4 := c114 wide hf.w1 hf.w2 ss hf.gs (by omega) ws hlen hin p hf.pw p.cmds[k] hc
  have hk' : (k : Int) < p.cmds.length := by omega
  by_cases hv : valT wide ss.length ws p.cmds[k].1 = 1#64
  · simp only [hv, decide_true] at k3
    simp only [progV, cmdV, tsl, chsl, cmdsl, wordsD, hk', decide_true, Bool.and_true] at k1 k2 k3 k4 ⊢
    simp [e115, F115_c, k1, k2, hk, cmdC, tsl, chsl, k3, mcall, k4]
    simp [fin, F115, stepR, hv, wordsD]
  · simp only [hv, decide_false] at k3
    simp only [progV, cmdV, tsl, chsl, cmdsl, wordsD, hk', decide_true, Bool.and_true] at k1 k2 k3 ⊢
    simp [e115, F115_c, k1, k2, hk, cmdC, tsl, chsl, k3]
    simp [fin, F115, stepR, hv, wordsD]

theorem c63_bad (wide : Int) (ss : List Sp) (ws : List (BitVec 64)) (hl : ss.length < 1000000) (hl2 : ws.length < 1000000) (h : (goodSS wide ss && stateOk wide ss.length ws) = false) :
    acall T X 63 [.d (.int .i64 wide), .d (ssl ss), .d (wordsD ws)] [] = some (.tup [.d (.bool false), .d (.bool false)], []) := by
  have k1 := c23 wide ss hl
  have k2 := c61 wide ss.length ws hl2
  simp only [ssl, wordsD] at k1 k2 ⊢
  cases h1 : goodSS wide ss with
  | false =>
    rw [h1] at k1
    simp [e63, F63_c, k1]
    simp [fin, F63]
  | true =>
    rw [h1] at h k1
    rw [Bool.true_and] at h
    rw [h] at k2
    simp [e63, F63_c, k1, k2]
    simp [fin, F63]

/-- What InSpans answers. -/
def inR (wide : Int) (ss : List Sp) (ws : List (BitVec 64)) : Bool × Bool := if (goodSS wide ss && stateOk wide ss.length ws) = true then (within ss ws, true) else (false, false)
theorem c63 (wide : Int) (ss : List Sp) (ws : List (BitVec 64)) (hl : ss.length < 1000000) (hl2 : ws.length < 1000000) :
    acall T X 63 [.d (.int .i64 wide), .d (ssl ss), .d (wordsD ws)] [] = some (.tup [.d (.bool (inR wide ss ws).1), .d (.bool (inR wide ss ws).2)], []) := by
  by_cases h : (goodSS wide ss && stateOk wide ss.length ws) = true
  · have h' := h
    simp only [Bool.and_eq_true] at h'
    rw [c63_good wide ss ws hl h'.1 h'.2]
    simp [inR, h']
  · rw [c63_bad wide ss ws hl hl2 (by simpa using h)]
    simp [inR, h]

theorem c120 (wide : Int) (ws : List (BitVec 64)) (hl : ws.length < 1000000) : acall T X 120 [.d (.int .i64 wide), .d (wordsD ws)] [] = some (.d (.bool (ws.all (gw wide))), []) := by
  have loop : ∀ (suf pre : List (BitVec 64)) (z : Int), ws = pre ++ suf → z = pre.length →
      go T X F120 0 [.code F120_b0, .inLoop [(0, .keep), (7, .keep), (8, .keep), (9, .keep)] F120_l0, .inBlock 0, .code (.kp [] F120_t0)] [(0, .d (.int .i64 wide)), (7, .d (wordsD ws)), (8, .d (.int .i64 ws.length)), (9, .d (.int .i64 z))] [] = some (.d (.bool (suf.all (gw wide))), []) := by
    intro suf
    induction suf with
    | nil =>
      intro pre z hx hz
      subst hz
      have : ws.length = pre.length := by simp [hx]
      simp [F120_b0, this, F120_t0]
      simp [fin, F120]
    | cons x suf ih =>
      intro pre z hx hz
      subst hz
      have h1 : pre.length < ws.length := by simp [hx]
      have h2 : ws[pre.length] = x := by simp [hx]
      cases hpx : gw wide x with
      | false =>
        simp [F120_b0, h1, wordsD, h2, c42, hpx]
        simp [fin, F120, hpx]
      | true =>
        have := ih (pre ++ [x]) (wr ((pre.length : Int) + 1)) (by simp [hx]) (by rw [wr_id (by omega) (by omega)]; simp)
        simp [wordsD] at this
        simp [F120_b0, h1, wordsD, h2, c42, hpx]
        rw [go_inLoop]
        simp
        rw [this]
  have := loop ws [] 0 rfl rfl
  simp only [wordsD] at this ⊢
  simp [e120, F120_c]
  rw [go_inLoop]
  simp
  rw [this]

theorem c121_loop (ss : List Sp) (ws : List (BitVec 64)) (hlen : ws.length = ss.length) (hl : ss.length < 1000000) : ∀ (suf pre : List Sp) (suw prw : List (BitVec 64)) (z : Int), ss = pre ++ suf → ws = prw ++ suw → prw.length = pre.length → z = pre.length →
    go T X F121 0 [.code F121_b0, .inLoop [(2, .keep), (27, .keep), (28, .keep), (29, .keep)] F121_l0, .inBlock 0, .code (.kp [] F121_t0)] [(2, .d (wordsD ws)), (27, .d (ssl ss)), (28, .d (.int .i64 ss.length)), (29, .d (.int .i64 z))] [] =
      some (.tup [.d (.bool (within suf suw)), .d (.bool true)], []) := by
  intro suf
  induction suf with
  | nil =>
    intro pre suw prw z hs hw hp hz
    subst hz
    have : ss.length = pre.length := by simp [hs]
    simp [F121_b0, this, F121_t0]
    simp [fin, F121, within]
  | cons s suf ih =>
    intro pre suw prw z hs hw hp hz
    subst hz
    cases suw with
    | nil => simp [hs, hw] at hlen; omega
    | cons w suw =>
      have h1 : pre.length < ss.length := by simp [hs]
      have h1' : pre.length < ws.length := by omega
      have h2 : ss[pre.length] = s := by simp [hs]
      have h3 : ws[pre.length] = w := by simp [hw, ← hp]
      have := ih (pre ++ [s]) suw (prw ++ [w]) (wr ((pre.length : Int) + 1)) (by simp [hs]) (by simp [hw]) (by simp [hp]) (by rw [wr_id (by omega) (by omega)]; simp)
      simp only [wordsD, ssl] at this
      by_cases e1 : w < s.1
      · have : hasS s w = false := by
          simp only [hasS, Bool.and_eq_false_iff, decide_eq_false_iff_not, BitVec.le_def, BitVec.lt_def] at e1 ⊢
          left; omega
        simp [F121_b0, h1, h1', h2, h3, ssl, wordsD, spanC, e1]
        simp [fin, F121, within, this]
      · by_cases e2 : s.2 < w
        · have : hasS s w = false := by
            simp only [hasS, Bool.and_eq_false_iff, decide_eq_false_iff_not, BitVec.le_def, BitVec.lt_def] at e2 ⊢
            right; omega
          simp [F121_b0, h1, h1', h2, h3, ssl, wordsD, spanC, e1, e2]
          simp [fin, F121, within, this]
        · have hh : hasS s w = true := by
            simp only [hasS, Bool.and_eq_true, decide_eq_true_eq, BitVec.le_def, BitVec.lt_def] at e1 e2 ⊢
            omega
          simp [F121_b0, h1, h1', h2, h3, ssl, wordsD, spanC, e1, e2]
          rw [go_inLoop]
          simp
          rw [this]
          simp [within, hh]

theorem inR_eq {wide : Int} {ss : List Sp} {ws : List (BitVec 64)} (h : goodSS wide ss = true) : stateOk wide ss.length ws = (decide (ws.length = ss.length) && ws.all (gw wide)) := by
  simp only [goodSS, Bool.and_eq_true, decide_eq_true_eq, List.all_eq_true] at h
  obtain ⟨⟨l0, l1⟩, hg⟩ := h
  have hw : 1 ≤ wide ∧ wide ≤ 64 := by
    cases ss with
    | nil => simp at l0
    | cons s ss =>
      have := hg s (by simp)
      simp only [goodS, gw, Bool.and_eq_true, decide_eq_true_eq] at this
      omega
  rw [Bool.eq_iff_iff]
  simp only [stateOk, Bool.and_eq_true, decide_eq_true_eq]
  constructor
  · rintro ⟨⟨_, h1⟩, h2⟩; exact ⟨by omega, h2⟩
  · rintro ⟨h1, h2⟩; exact ⟨⟨⟨hw, by omega, by omega⟩, by omega⟩, h2⟩

theorem c121 (wide : Int) (ss : List Sp) (ws : List (BitVec 64)) (hl : ss.length < 1000000) (hl2 : ws.length < 1000000) :
    acall T X 121 [.d (.int .i64 wide), .d (ssl ss), .d (wordsD ws)] [] = some (.tup [.d (.bool (inR wide ss ws).1), .d (.bool (inR wide ss ws).2)], []) := by
  have k1 := c48 wide ss hl
  have k2 := c120 wide ws hl2
  simp only [ssl, wordsD] at k1 k2 ⊢
  cases h1 : goodSS wide ss with
  | false =>
    rw [h1] at k1
    simp [e121, F121_c, k1]
    simp [fin, F121, inR, h1]
  | true =>
    rw [h1] at k1
    have he := inR_eq (ws := ws) h1
    by_cases h2 : ws.length = ss.length
    case neg =>
      have h2' : ¬ (ws.length : Int) = ss.length := by omega
      simp [e121, F121_c, k1, h2']
      simp [fin, F121, inR, h1, he, h2]
    cases h3 : ws.all (gw wide) with
    | false =>
      rw [h3] at k2
      simp [e121, F121_c, k1, h2, k2]
      simp [fin, F121, inR, h1, he, h2, h3]
    | true =>
      rw [h3] at k2
      have k3 := c121_loop ss ws h2 hl ss [] ws [] 0 rfl rfl rfl rfl
      simp only [ssl, wordsD] at k3
      simp [e121, F121_c, k1, h2, k2]
      rw [go_inLoop]
      simp
      rw [k3]
      simp [inR, h1, he, h2, h3]
end Go.Proofs.YtplgdddfhjpojaaGreat.AM

namespace Go.Proofs.YtplgdddfhjpojaaGreat.AM
open Go

/-- The k-th interval holds an interval. -/
def Cov (A : List Sp) (k : Nat) (s : Sp) : Prop := ∃ q, A[k]? = some q ∧ q.1.toNat ≤ s.1.toNat ∧ s.2.toNat ≤ q.2.toNat

theorem Cov.change {wide : Nat} {ss A : List Sp} {k : Nat} {s : Sp} (h : Cov A k s) (x : Ch) : Cov (changeS wide ss A x) k s := by
  obtain ⟨q, h1, h2, h3⟩ := h
  by_cases hk : x.1.toNat = k
  · have hl : k < A.length := by
      rcases Nat.lt_or_ge k A.length with h | h
      · exact h
      · rw [List.getElem?_eq_none h] at h1; cases h1
    have hq : A[k] = q := by rw [List.getElem?_eq_getElem hl] at h1; simpa using h1
    refine ⟨joinS q (spanT wide ss x.2), ?_, ?_, ?_⟩
    · simp [changeS, hk, hl, hq]
    · simp only [joinS, leastW_toNat]; omega
    · simp only [joinS, mostW_toNat]; omega
  · exact ⟨q, by simp [changeS, hk, h1], h2, h3⟩
theorem Cov.changes {wide : Nat} {ss : List Sp} {k : Nat} {s : Sp} : ∀ (xs : List Ch) {A : List Sp}, Cov A k s → Cov (xs.foldl (changeS wide ss) A) k s
  | [], _, h => h
  | x :: xs, _, h => Cov.changes xs (h.change x)
theorem Cov.cmd {wide : Nat} {ss A : List Sp} {k : Nat} {s : Sp} (h : Cov A k s) (c : Cmd) : Cov (cmdS wide ss A c) k s := by
  unfold cmdS; split
  · exact h
  · exact Cov.changes c.2 h
theorem Cov.cmds {wide : Nat} {ss : List Sp} {k : Nat} {s : Sp} : ∀ (cs : List Cmd) {A : List Sp}, Cov A k s → Cov (cs.foldl (cmdS wide ss) A) k s
  | [], _, h => h
  | c :: cs, _, h => Cov.cmds cs (h.cmd c)

theorem cov_new {wide : Nat} {ss A : List Sp} {x : Ch} (hx : x.1.toNat < A.length) : Cov (changeS wide ss A x) x.1.toNat (spanT wide ss x.2) := by
  refine ⟨joinS A[x.1.toNat] (spanT wide ss x.2), by simp [changeS, hx], ?_, ?_⟩
  · simp only [joinS, leastW_toNat]; omega
  · simp only [joinS, mostW_toNat]; omega
theorem cov_changes {wide : Nat} {ss : List Sp} : ∀ (xs : List Ch) {A : List Sp}, A.length = ss.length → (∀ x ∈ xs, okCh wide ss.length x) → ∀ x ∈ xs, Cov (xs.foldl (changeS wide ss) A) x.1.toNat (spanT wide ss x.2)
  | [], _, _, _, _, h => by simp at h
  | y :: xs, A, ha, ho, x, h => by
    simp only [List.mem_cons] at h
    rcases h with rfl | h
    · obtain ⟨o1, o2, _⟩ := ho x (by simp)
      exact Cov.changes xs (cov_new (by omega))
    · exact cov_changes xs (by rw [changeS_len]; exact ha) (fun z hz => ho z (by simp [hz])) x h
theorem cov_cmds {wide : Nat} {ss : List Sp} : ∀ (cs : List Cmd) {A : List Sp}, A.length = ss.length → (∀ c ∈ cs, okCmd wide ss.length c) → ∀ c ∈ cs, (spanT wide ss c.1).2 ≠ 0#64 → ∀ x ∈ c.2, Cov (cs.foldl (cmdS wide ss) A) x.1.toNat (spanT wide ss x.2)
  | [], _, _, _, _, h, _, _, _ => by simp at h
  | d :: cs, A, ha, ho, c, h, h0, x, hx => by
    simp only [List.mem_cons] at h
    rcases h with rfl | h
    · have := cov_changes c.2 ha (ho c (by simp)).2.2.2 x hx
      refine Cov.cmds cs ?_
      unfold cmdS
      rw [if_neg h0]
      exact this
    · exact cov_cmds cs (by rw [cmdS_len]; exact ha) (fun z hz => ho z (by simp [hz])) c h h0 x hx

theorem within_set : ∀ {ss : List Sp} {ws : List (BitVec 64)}, within ss ws = true → ∀ (k : Nat) {q : Sp} {v : BitVec 64}, ss[k]? = some q → hasS q v = true → within ss (ws.set k v) = true
  | [], _, _, k, _, _, h, _ => by simp at h
  | _ :: _, [], _, k, _, _, _, _ => by simp [within]
  | s :: ss, w :: ws, hin, k, q, v, h, hv => by
    simp only [within, Bool.and_eq_true] at hin
    cases k with
    | zero =>
      simp at h; subst h
      simp [within, hv, hin.2]
    | succ k =>
      simp at h
      simp only [List.set_cons_succ, within, Bool.and_eq_true]
      exact ⟨hin.1, within_set hin.2 k h hv⟩

theorem after_within {wide n : Nat} {ss : List Sp} {ws : List (BitVec 64)} : ∀ (xs : List Ch) {acc : List (BitVec 64)}, within ss acc = true → (∀ x ∈ xs, ∃ q, ss[x.1.toNat]? = some q ∧ hasS q (valT wide n ws x.2) = true) → within ss (xs.foldl (changeW wide n ws) acc) = true
  | [], _, h, _ => h
  | x :: xs, acc, h, hx => by
    obtain ⟨q, h1, h2⟩ := hx x (by simp)
    exact after_within xs (within_set h _ h1 h2) (fun y hy => hx y (by simp [hy]))
theorem afterW_len {wide n : Nat} {ws : List (BitVec 64)} : ∀ (xs : List Ch) (acc : List (BitVec 64)), (xs.foldl (changeW wide n ws) acc).length = acc.length
  | [], _ => rfl
  | x :: xs, acc => by rw [List.foldl_cons, afterW_len xs, changeW_len]

theorem settled_holds {wide : Nat} {p : Pg} {ss : List Sp} (hf : Fits wide p ss) (hr : roundS wide p.cmds ss = ss) {ws : List (BitVec 64)} (hlen : ws.length = ss.length) (hin : within ss ws = true) {c : Cmd} (hc : c ∈ p.cmds) (hv : valT wide ss.length ws c.1 = 1#64) :
    within ss (c.2.foldl (changeW wide ss.length ws) ws) = true := by
  have l1 := hf.l1
  have ho := hf.gc c hc
  have h0 : (spanT wide ss c.1).2 ≠ 0#64 := by
    intro h
    have := valT_in wide hf.w1 hf.w2 ss hf.gs (by omega) c.1 ho.1 ws hlen hin
    have := this.2
    rw [hv, h] at this
    simp at this
  refine after_within c.2 hin fun x hx => ?_
  obtain ⟨q, q1, q2, q3⟩ := cov_cmds (A := ss) p.cmds rfl hf.gc c hc h0 x hx
  rw [show p.cmds.foldl (cmdS wide ss) ss = ss from hr] at q1
  refine ⟨q, q1, ?_⟩
  have hi := valT_in wide hf.w1 hf.w2 ss hf.gs (by omega) x.2 (ho.2.2.2 x hx).2.2 ws hlen hin
  obtain ⟨i1, i2⟩ := hi
  simp only [hasS, Bool.and_eq_true, decide_eq_true_eq, BitVec.le_def]
  omega
end Go.Proofs.YtplgdddfhjpojaaGreat.AM

namespace Go.Proofs.YtplgdddfhjpojaaGreat.AM
open Go

def pgB (p : Pg) : AO := .box [.d (.int .i64 p.wide), .d (.int .i64 p.vars), .d (tsl p.start), .d (cmdsl p.cmds)]

/-- The loop that makes the state. -/
noncomputable def G122 (l : List (BitVec 8)) (p : Pg) (ss : List Sp) (K : List AT) (ws : List (BitVec 64)) (i : Int) : Option (AV × St) :=
  go T X F122 0 (.code F122_b0 :: .inLoop [(1, .keep), (5, .keep), (8, .keep), (16, .ow 1), (96, .keep), (97, .keep), (98, .keep)] F122_l0 :: .inBlock 0 :: K)
    [(1, .d (bytesD l)), (5, .ptr 0 0 0 0), (8, .d (ssl ss)), (16, .hs 1 1 0 ws.length), (96, .d (ssl ss)), (97, .d (.int .i64 ss.length)), (98, .d (.int .i64 i))]
    [pgB p, .arr 1 (ws.map fun w => [.w w]) true]

theorem G122_step (l : List (BitVec 8)) (p : Pg) (ss : List Sp) (K : List AT) (ws : List (BitVec 64)) (m : Int) (hm : acall T X 57 [.d (bytesD l)] [] = some (.d (.int .i64 m), [])) (i : Nat) (hi : i < ss.length) (hl : ss.length < 1000) (hw : ws.length < 1000) (x : Sp) (hx : ss[i] = x) (R : Option (AV × St))
    (hR : G122 l p ss K (ws ++ [stW (ofI (wr (m.tdiv ((i : Int) + 1)))) x]) ((i : Int) + 1) = R) : G122 l p ss K ws i = R := by
  have hw1 : wr ((i : Int) + 1) = (i : Int) + 1 := by rw [wr_id] <;> omega
  have hn : ¬ (i : Int) + 1 = 0 := by omega
  have hma : ws.length + 1 ≤ maxApp := by simp only [maxApp]; omega
  unfold G122 at hR ⊢
  simp only [bytesD, pgB] at hm hR ⊢
  simp [tsl, ssl, cmdsl, spanC] at hR
  by_cases hc : x.2 - x.1 < 1000000#64
  · have hz : ¬ x.2 - x.1 + 1#64 = 0#64 := by
      intro q
      have := congrArg BitVec.toNat q
      rw [BitVec.lt_def] at hc
      rw [BitVec.toNat_add] at this
      simp at hc this
      omega
    simp only [stW, hc, if_true] at hR
    simp [F122_b0, tsl, ssl, cmdsl, spanC, hi, hx, hc, hm, hw1, hn, hz]
    simp [F122_t0, hma]
    simp [F122_t1, hw1]
    rw [go_inLoop]
    simp
    exact hR
  · simp only [stW, hc, if_false] at hR
    simp [F122_b0, tsl, ssl, cmdsl, spanC, hi, hx, hc, hm, hw1, hn]
    simp [F122_t0, hma]
    simp [F122_t1, hw1]
    rw [go_inLoop]
    simp
    exact hR

theorem G122_loop (l : List (BitVec 8)) (p : Pg) (ss : List Sp) (K : List AT) (m : Int) (hm : acall T X 57 [.d (bytesD l)] [] = some (.d (.int .i64 m), [])) (hl : ss.length < 1000) : ∀ (suf pre : List Sp) (ws : List (BitVec 64)) (R : Option (AV × St)), ss = pre ++ suf → ws.length = pre.length →
    G122 l p ss K (ws ++ stL m pre.length suf) ss.length = R → G122 l p ss K ws (pre.length : Int) = R
  | [], pre, ws, R, h, _, hR => by
    simpa [stL, h] using hR
  | x :: suf, pre, ws, R, h, hw, hR => by
    refine G122_step l p ss K ws m hm pre.length (by simp [h]) hl (by simp [h] at hl; omega) x (by simp [h]) R ?_
    have := G122_loop l p ss K m hm hl suf (pre ++ [x]) (ws ++ [stW (ofI (wr (m.tdiv ((pre.length : Int) + 1)))) x]) R (by simp [h]) (by simp [hw]) (by simpa [stL] using hR)
    simpa using this

set_option maxRecDepth 8000 in
/-- The law's end: rounds and states of drawn programs and intervals. -/
theorem c122_t3 (l : List (BitVec 8)) : go T X F122 0 [.code F122_t3] [(1, .d (bytesD l))] [] = some (.d (.bool true), []) := by
  obtain ⟨p, ss, k1, hp, hl⟩ := c116 l
  obtain ⟨wide, ss', ws, k4, _, _, hl', hlw⟩ := c119 l
  have k5 := c63 wide ss' ws (by omega) (by omega)
  have k6 := c121 wide ss' ws (by omega) (by omega)
  have k7 : ∀ r : List Sp, r.length < 1000000 → acall T X 108 [.d (ssl r), .d (ssl r)] [] = some (.d (.bool true), []) := fun r hr => by
    rw [c108 r r hr]; simp
  generalize inR wide ss' ws = q at *
  obtain ⟨q1, q2⟩ := q
  have hv := hp.v1
  have hv0 := hp.v0
  cases hf : forP p ss with
  | false =>
    have k2 := c109_bad p hp.short ss (by omega) hf
    have k3 := c117_bad p (by omega) (by omega) hp.short ss (by omega) hf
    have k8 := k7 [] (by simp)
    simp only [progV, bytesD, tsl, cmdsl, ssl, wordsD, List.map_nil] at k1 k2 k3 k4 k5 k6 k8 ⊢
    simp [F122_t3, mcall, k1, k2, k3, k4, k5, k6, k8]
    simp [fin, F122]
  | true =>
    obtain ⟨wd, hF⟩ := forP_fits hp.short hf
    have k2 := c109_good hp.short hF hf
    have k3 := c117_good hp.short hF hf
    have k8 := k7 (roundS wd p.cmds ss) (by rw [hF.len]; omega)
    simp only [progV, bytesD, tsl, cmdsl, ssl, wordsD] at k1 k2 k3 k4 k5 k6 k8 ⊢
    simp [F122_t3, mcall, k1, k2, k3, k4, k5, k6, k8]
    simp [fin, F122]

/-- The loop over the commands. -/
theorem c122_cmds (l : List (BitVec 8)) {wide : Nat} {p : Pg} (hp : p.fit) (hgp : goodP p = true) {ss : List Sp} (hf : Fits wide p ss) (hr : roundS wide p.cmds ss = ss) (ws : List (BitVec 64)) (hlen : ws.length = ss.length) (hin : within ss ws = true) : ∀ (k : Nat) (i : Nat) (b : Bool), i + k = p.cmds.length →
    go T X F122 0 [.code F122_b1, .inLoop [(1, .keep), (5, .keep), (8, .keep), (16, .keep), (139, .keep), (140, .keep)] F122_l1, .inBlock 2, .code (.kp [(1, .keep)] F122_t3)]
      [(1, .d (bytesD l)), (5, .ptr 0 0 0 0), (8, .d (ssl ss)), (16, .hs 1 1 0 ws.length), (139, .d (.int .i64 p.cmds.length)), (140, .d (.int .i64 i))]
      [pgB p, .arr 1 (ws.map fun w => [.w w]) b] = some (.d (.bool true), []) := by
  intro k
  have l1 := hf.l1
  have ht : List.take ws.length (ws.map fun w => [D.w w]) = ws.map fun w => [D.w w] := List.take_of_length_le (by simp)
  induction k with
  | zero =>
    intro i b hi
    have : i = p.cmds.length := by omega
    subst this
    have := c122_t3 l
    simp only [bytesD] at this ⊢
    simp [F122_b1, pgB, tsl, cmdsl, ssl]
    exact this
  | succ k ih =>
    intro i b hi
    have h1 : i < p.cmds.length := by omega
    have hcl := hp.cm
    have hw1 : wr ((i : Int) + 1) = (i : Int) + 1 := by rw [wr_id] <;> omega
    have hn := fun b => ih (i + 1) b (by omega)
    have k1 := c115 hp.short hgp hf ws hlen hin i h1
    unfold stepR at k1
    by_cases hv : valT wide ss.length ws p.cmds[i].1 = 1#64
    · rw [if_pos hv] at k1
      have hw := settled_holds hf hr hlen hin (List.getElem_mem h1) hv
      have k2 := c63_good p.wide ss (p.cmds[i].2.foldl (changeW wide ss.length ws) ws) (by omega) (by
        have := hf.forP hgp
        simp only [forP, Bool.and_eq_true] at this
        exact this.2) (by
        have := hf.state (ws := p.cmds[i].2.foldl (changeW wide ss.length ws) ws) (by rw [afterW_len]; exact hlen) hw
        rw [hf.pv] at this
        exact this)
      rw [hw] at k2
      generalize p.cmds[i].2.foldl (changeW wide ss.length ws) ws = us at *
      simp only [progV, bytesD, pgB, tsl, cmdsl, ssl, wordsD, Int.natCast_add, Int.cast_ofNat_Int] at k1 k2 hn ⊢
      simp [F122_b1, h1, mcall, ht, k1, k2, hw1]
      rw [go_inLoop]
      simp
      exact hn _
    · rw [if_neg hv] at k1
      have k2 := c63_bad p.wide ss [] (by omega) (by simp) (by
        have : stateOk p.wide ss.length [] = false := by
          have l0 := hf.l0
          simp only [stateOk, Bool.and_eq_false_iff, decide_eq_false_iff_not, List.length_nil]
          left; right; omega
        rw [this, Bool.and_false])
      simp only [progV, bytesD, pgB, tsl, cmdsl, ssl, wordsD, List.map_nil, Int.natCast_add, Int.cast_ofNat_Int] at k1 k2 hn ⊢
      simp [F122_b1, h1, mcall, ht, k1, k2, hw1]
      rw [go_inLoop]
      simp
      exact hn _

theorem c122_t2 (l : List (BitVec 8)) {wide : Nat} {p : Pg} (hp : p.fit) (hgp : goodP p = true) {ss : List Sp} (hf : Fits wide p ss) (hr : roundS wide p.cmds ss = ss) (ws : List (BitVec 64)) (hlen : ws.length = ss.length) (hin : within ss ws = true) :
    G122 l p ss [.code (.kp [(1, .keep), (5, .keep), (8, .keep), (16, .keep)] F122_t2), .code (.kp [(1, .keep)] F122_t3)] ws ss.length = some (.d (.bool true), []) := by
  have k := c122_cmds l hp hgp hf hr ws hlen hin p.cmds.length 0 true (by omega)
  unfold G122
  simp only [progV, bytesD, pgB, tsl, cmdsl, ssl] at k ⊢
  simp [F122_b0, F122_t2]
  rw [go_inLoop]
  simp
  exact k

theorem c122 (l m : List (BitVec 8)) (hl : l.length < 4611686018427387904) (hm : m.length < 4611686018427387904) : acall T X 122 [.d (bytesD l), .d (bytesD m)] [] = some (.d (.bool true), []) := by
  have k1 := c1 l m hl hm
  by_cases hb : 1048576 < l.length + m.length
  · simp only [bytesD] at k1 ⊢
    simp [e122, F122_c, k1, hb]
    simp [fin, F122]
  obtain ⟨p, ss, n, k2, hp, hsl, hn0, hn⟩ := c88 l
  have k3 := c122_t3 m
  have hv := hp.v1
  have hv0 := hp.v0
  have k7 : ∀ r : List Sp, r.length < 1000000 → acall T X 108 [.d (ssl r), .d (ssl r)] [] = some (.d (.bool true), []) := fun r hr => by
    rw [c108 r r hr]; simp
  by_cases hbad : forP p ss = false ∨ n < 0 ∨ 20 < n
  · have k4 := c101_bad p hp.short ss (by omega) n hbad
    have k5 := c107_bad p (by omega) (by omega) hp.short ss (by omega) n hbad
    have k8 := k7 [] (by simp)
    simp only [badR, progV, bytesD, tsl, cmdsl, ssl, List.map_nil] at k1 k2 k3 k4 k5 k8 ⊢
    simp [e122, F122_c, mcall, k1, hb, k2, k4, k5, k8, k3]
  · obtain ⟨b1, b2, b3⟩ : forP p ss = true ∧ 0 ≤ n ∧ n ≤ 20 := by
      refine ⟨?_, by omega, by omega⟩
      cases h : forP p ss with
      | true => rfl
      | false => exact absurd (.inl h) hbad
    have hgp : goodP p = true := by
      simp only [forP, Bool.and_eq_true] at b1
      exact b1.1.1
    obtain ⟨k, rfl⟩ : ∃ k : Nat, n = k := ⟨n.toNat, by omega⟩
    obtain ⟨wide, hF⟩ := forP_fits hp.short b1
    have k4 := c101_good hp.short hF b1 k (by omega)
    have k5 := c107_good hp.short hF b1 k (by omega)
    have hR := hF.rounds k
    obtain ⟨res, hres⟩ : ∃ res, res = roundsS wide p.cmds k ss := ⟨_, rfl⟩
    rw [← hres] at k4 k5 hR
    have hrl := hR.l1
    have k8 := k7 res (by omega)
    unfold settleR at k4 k5
    by_cases hr : roundS wide p.cmds res = res
    · simp only [hr, decide_true] at k4 k5
      have k6 := c109_good hp.short hR (hR.forP hgp)
      rw [hr] at k6
      obtain ⟨q, k57, j, rfl, hj⟩ := c57 m hm
      have hle : ∀ s ∈ res, s.1 ≤ s.2 := by
        intro s h
        have := hR.gs s h
        simp only [goodS, Bool.and_eq_true, decide_eq_true_eq] at this
        exact this.2
      have kt := c122_t2 m hp hgp hR hr (stL j 0 res) (stL_len _ _ _) (stL_within _ _ _ hle)
      have kl := G122_loop m p res _ j k57 (by omega) res [] [] _ rfl rfl (by simpa using kt)
      unfold G122 at kl
      simp only [progV, bytesD, pgB, tsl, cmdsl, ssl] at k1 k2 k3 k4 k5 k6 k8 kl ⊢
      simp at kl
      simp [e122, F122_c, mcall, k1, hb, k2, k4, k5, k8, k6]
      rw [go_inLoop]
      simp
      exact kl
    · simp only [hr, decide_false] at k4 k5
      simp only [progV, bytesD, tsl, cmdsl, ssl] at k1 k2 k3 k4 k5 k8 ⊢
      simp [e122, F122_c, mcall, k1, hb, k2, k4, k5, k8, k3]
end Go.Proofs.YtplgdddfhjpojaaGreat.AM
