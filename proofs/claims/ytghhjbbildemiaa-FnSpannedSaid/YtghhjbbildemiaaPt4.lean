/-
Good terms. Good terms, as the specification tells them. Good terms (the specification's word), good intervals. Terms as trees. Where a tree begins in its text; good lists of intervals. The specification's intervals of single operators. Intervals of trees: they are intervals of words. The specification's interval of a term. The specification's interval of a term: the code. The program's intervals of single operators. Products of words. The program's intervals of products, comparisons, meets. The program's interval of an operator with two operands is the specification's. The program's interval of a term. The program's interval of a term is the specification's. The program's SpanOf. Small functions on words. Division. What an operator with two operands makes of two words. Joins of intervals. States. A state within intervals. A number out of bytes. The program's value of a term: one node. The value of a tree; it is a word, or a truth value. A term's value lies in its interval (Cousot). A term's value lies in its interval (Cousot): trees. The program's ValueOf. The program's ValueOf, big. Joins and meets of drawn intervals are as the law says. The law's state: a word out of each interval. The law FnSpanned answers true.
Conditions: none beyond those that each theorem states.
-/
import Derived.Test.YtghhjbbildemiaaPt3
import Derived.Lib.Mul64
set_option linter.all false
namespace Go.Proofs.Ytghhjbbildemiaa.AM
open Go

/-- What a closure holds: data that stays where it is. -/
def CapOk (caps : List AV) : Prop := (∀ L, lendL L [] caps = some caps) ∧ hOfL caps = [] ∧ ∀ g, renL g caps = caps
theorem capOk_one (c : List D) : CapOk [.eptr c 0] := ⟨fun L => by simp, by simp, fun g => by simp⟩
theorem capOk_two (c d : List D) : CapOk [.eptr c 0, .eptr d 0] := ⟨fun L => by simp, by simp, fun g => by simp⟩

/-- The search for an element that a closure takes. -/
theorem index26 (g : Nat) (caps : List AV) (hk : CapOk caps) (p : Int → Bool) (hp : ∀ x, acall T X g (.d (.int .i64 x) :: caps) [] = some (.d (.bool (p x)), [])) (xs : List Int) (hl : xs.length < 1000000) :
    Ev (acall T X 26 [.d (.sl (ints xs)), .fn g caps] []) fun r => ∃ n : Int, r = (.d (.int .i64 n), []) ∧ (0 ≤ n ↔ xs.any p = true) := by
  obtain ⟨hc, hc2, hc3⟩ := hk
  have loop : ∀ (suf pre : List Int) (z : Int), xs = pre ++ suf → z = pre.length →
      Ev (go T X F26 0 [.code F26_b0, .inLoop [(0, .keep), (1, .keep), (7, .keep), (8, .keep)] F26_l0, .inBlock 0, .code (.kp [] F26_t0)] [(0, .d (.sl (ints xs))), (1, .fn g caps), (7, .d (.int .i64 xs.length)), (8, .d (.int .i64 z))] []) fun r => ∃ n : Int, r = (.d (.int .i64 n), []) ∧ (0 ≤ n ↔ suf.any p = true) := by
    intro suf
    induction suf with
    | nil =>
      intro pre z hx hz
      subst hz
      have : xs.length = pre.length := by simp [hx]
      simp [F26_b0, this, F26_t0]
      simp [fin, F26]
    | cons x suf ih =>
      intro pre z hx hz
      subst hz
      have h1 : pre.length < xs.length := by simp [hx]
      have h2 : xs[pre.length] = x := by simp [hx]
      cases hpx : p x with
      | true =>
        simp [F26_b0, h1, ints, h2, hc, hp, hpx]
        simp [fin, F26]
      | false =>
        have := ih (pre ++ [x]) (wr ((pre.length : Int) + 1)) (by simp [hx]) (by rw [wr_id (by omega) (by omega)]; simp)
        simp [ints] at this
        simp [F26_b0, h1, ints, h2, hc, hp, hpx]
        rw [go_inLoop]
        simp [hc2, hc3]
        exact this
  have := loop xs [] 0 rfl rfl
  simp [e26, F26_c, ints] at this ⊢
  rw [go_inLoop]
  simp [hc2, hc3]
  exact this

theorem contains27 (g : Nat) (caps : List AV) (hk : CapOk caps) (p : Int → Bool) (hp : ∀ x, acall T X g (.d (.int .i64 x) :: caps) [] = some (.d (.bool (p x)), [])) (xs : List Int) (hl : xs.length < 1000000) :
    acall T X 27 [.d (.sl (ints xs)), .fn g caps] [] = some (.d (.bool (xs.any p)), []) := by
  obtain ⟨r, h, n, rfl, hn⟩ := index26 g caps hk p hp xs hl
  obtain ⟨hc, hc2, hc3⟩ := hk
  have hb : decide (0 ≤ n) = xs.any p := by
    rw [Bool.eq_iff_iff]; simpa using hn
  simp [e27, F27_c, hc, h, hb]
  simp [fin, F27, hb]

theorem c28 (k x : Int) : acall T X 28 [.d (.int .i64 x), .eptr [.int .i64 k] 0] [] = some (.d (.bool (x != k)), []) := by
  simp [e28, F28_c]
  simp [fin, F28]

/-- One node onto the kinds of those ahead of it. -/
def kstep (wide vars : Int) (x : Int × BitVec 64) (stk : List Int) : Option (List Int) :=
  if ownK x.1 = 0 ∨ leafOk wide vars x = false ∨ (stk.length : Int) < many x.1 ∨ ((stk.drop (stk.length - (many x.1).toNat)).any (· != part x.1)) = true then none
  else some (stk.take (stk.length - (many x.1).toNat) ++ [ownK x.1])
def kfold (wide vars : Int) : List (Int × BitVec 64) → List Int → Option (List Int)
  | [], stk => some stk
  | x :: t, stk => match kstep wide vars x stk with
    | some stk' => kfold wide vars t stk'
    | none => none
def goodT (wide vars : Int) (t : List (Int × BitVec 64)) : Bool :=
  decide (1 ≤ wide) && decide (wide ≤ 64) && (decide (1 ≤ vars) && decide (vars ≤ 4)) && (decide (1 ≤ t.length) && decide (t.length ≤ 48)) && (match kfold wide vars t [] with | some stk => stk.length == 1 | none => false)

theorem many_cases (op : Int) : many op = 0 ∨ many op = 1 ∨ many op = 2 := by
  unfold many; split <;> (try split) <;> simp

theorem kstep_len {wide vars : Int} {x : Int × BitVec 64} {stk stk' : List Int} (h : kstep wide vars x stk = some stk') : stk'.length ≤ stk.length + 1 := by
  unfold kstep at h
  split at h
  · cases h
  · cases h; simp

set_option maxHeartbeats 1000000 in
theorem c29_loop (wide vars : Int) (t : List (Int × BitVec 64)) (ht : t.length ≤ 48) : ∀ (suf pre : List (Int × BitVec 64)) (z : Int) (stk : List Int), t = pre ++ suf → z = pre.length → stk.length ≤ pre.length →
    go T X F29 0 [.code F29_b0, .inLoop [(0, .keep), (1, .keep), (7, .ow 1), (33, .keep), (34, .keep), (35, .keep)] F29_l0, .inBlock 0, .code (.kp [(7, .keep)] F29_t0)]
      [(0, .d (.int .i64 wide)), (1, .d (.int .i64 vars)), (7, .hs 0 1 0 stk.length), (33, .d (tsl t)), (34, .d (.int .i64 t.length)), (35, .d (.int .i64 z))] [.arr 1 (ints stk) true] =
    some (.d (.bool (match kfold wide vars suf stk with | some stk => stk.length == 1 | none => false)), []) := by
  intro suf
  induction suf with
  | nil =>
    intro pre z stk hx hz hs
    subst hz
    have : t.length = pre.length := by simp [hx]
    have hl : ((stk.length : Int) == 1) = (stk.length == 1) := by
      rw [Bool.eq_iff_iff]; simp; omega
    simp [F29_b0, this, F29_t0, kfold, hl]
    simp [fin, F29]
  | cons x suf ih =>
    intro pre z stk hx hz hs
    subst hz
    have h1 : pre.length < t.length := by simp [hx]
    have h2 : t[pre.length] = x := by simp [hx]
    have hm := many_cases x.1
    have hw : wr ((stk.length : Int) - many x.1) = (stk.length : Int) - many x.1 := by rw [wr_id] <;> omega
    have hla := c25 wide vars x
    by_cases q1 : ownK x.1 = 0
    · simp [F29_b0, h1, tsl, h2, nodeV, node, c24, q1, hw]
      simp [fin, F29, kfold, kstep, q1]
    cases q2 : leafOk wide vars x with
    | false =>
      rw [q2] at hla
      simp [F29_b0, h1, tsl, h2, nodeV, node, c24, q1, hw, hla]
      simp [fin, F29, kfold, kstep, q1, q2]
    | true =>
    rw [q2] at hla
    by_cases q3 : (stk.length : Int) < many x.1
    · have q3' : (stk.length : Int) - many x.1 < 0 := by omega
      simp [F29_b0, h1, tsl, h2, nodeV, node, c24, q1, hw, hla, q3']
      simp [fin, F29, kfold, kstep, q1, q2, q3]
    have q3' : ¬ (stk.length : Int) - many x.1 < 0 := by omega
    have q3a : 0 ≤ (stk.length : Int) - many x.1 := by omega
    have q3b : (stk.length : Int) - many x.1 ≤ stk.length := by omega
    have q3c : ((stk.length : Int) - many x.1).toNat = stk.length - (many x.1).toNat := by omega
    have q3d : many x.1 ≤ (stk.length : Int) := by omega
    have q3e : stk.length - (many x.1).toNat + (stk.length - (stk.length - (many x.1).toNat)) ≤ stk.length := by omega
    have hct := contains27 28 [.eptr [.int .i64 (part x.1)] 0] (capOk_one _) (· != part x.1) (fun y => c28 _ y) (stk.drop (stk.length - (many x.1).toNat)) (by simp; omega)
    simp only [ints, List.map_drop] at hct
    cases q4 : (stk.drop (stk.length - (many x.1).toNat)).any (· != part x.1) with
    | true =>
      rw [q4] at hct
      simp [F29_b0, h1, tsl, h2, nodeV, node, c24, q1, hw, hla, q3', q3b, q3c, q3d, q3e, ints, hct]
      simp [fin, F29, kfold, kstep, q1, q2, q3, q4]
    | false =>
      rw [q4] at hct
      have q5 : stk.length - (many x.1).toNat + 1 ≤ maxApp := by simp only [maxApp]; omega
      have hk : kstep wide vars x stk = some (stk.take (stk.length - (many x.1).toNat) ++ [ownK x.1]) := by
        simp only [kstep]
        rw [if_neg]
        simp [q1, q2, q3, q4]
      have := ih (pre ++ [x]) (wr ((pre.length : Int) + 1)) (stk.take (stk.length - (many x.1).toNat) ++ [ownK x.1]) (by simp [hx]) (by rw [wr_id (by omega) (by omega)]; simp) (by simp; omega)
      simp [ints, List.map_take] at this
      simp [F29_b0, h1, tsl, h2, nodeV, node, c24, q1, hw, hla, q3', q3b, q3c, q3d, q3e, ints, hct, q5]
      rw [go_inLoop]
      simp
      simp only [kfold, hk]
      exact this

theorem c29 (wide vars : Int) (t : List (Int × BitVec 64)) (hl : t.length < 1000000) : acall T X 29 [.d (.int .i64 wide), .d (.int .i64 vars), .d (tsl t)] [] = some (.d (.bool (goodT wide vars t)), []) := by
  have out : ∀ b : Bool, go T X F29 0 [] [(6, .d (.bool b))] [] = some (.d (.bool b), []) := fun b => by simp [fin, F29]
  simp only [go_nil] at out
  by_cases h1 : 1 ≤ wide
  case neg => simp [e29, F29_c, c18, h1, out, goodT]
  by_cases h2 : wide ≤ 64
  case neg => simp [e29, F29_c, c18, h1, h2, out, goodT]
  by_cases h3 : 1 ≤ vars
  case neg => simp [e29, F29_c, c18, c15, h1, h2, h3, out, goodT]
  by_cases h4 : vars ≤ 4
  case neg => simp [e29, F29_c, c18, c15, h1, h2, h3, h4, out, goodT]
  by_cases h5 : 1 ≤ t.length
  case neg =>
    have h5' : (t.length : Int) < 1 := by omega
    simp [e29, F29_c, c18, c15, h1, h2, h3, h4, h5', tsl, out, goodT, h5]
  by_cases h6 : t.length ≤ 48
  case neg =>
    have h5' : ¬ (t.length : Int) < 1 := by omega
    have h6' : (48 : Int) < t.length := by omega
    simp [e29, F29_c, c18, c15, h1, h2, h3, h4, h5', h6', tsl, out, goodT, h5, h6]
  have h5' : ¬ (t.length : Int) < 1 := by omega
  have h6' : ¬ (48 : Int) < t.length := by omega
  have := c29_loop wide vars t h6 t [] 0 [] rfl rfl (Nat.le_refl _)
  simp only [ints, tsl, List.map_nil, List.length_nil] at this
  simp [e29, F29_c, c18, c15, h1, h2, h3, h4, h5', h6', tsl]
  rw [go_inLoop]
  simp
  rw [this]
  simp [goodT, h1, h2, h3, h4, h5, h6]
end Go.Proofs.Ytghhjbbildemiaa.AM

namespace Go.Proofs.Ytghhjbbildemiaa.AM
open Go

/-- The m kinds below place n are p. -/
def popsOk (stk : List Int) (p : Int) : Nat → Nat → Bool
  | _, 0 => true
  | 0, _ + 1 => false
  | n + 1, m + 1 => (stk[n]? == some p) && popsOk stk p n m

theorem popsOk_spec (stk : List Int) (p : Int) : ∀ (m n : Nat), m ≤ n → n ≤ stk.length → popsOk stk p n m = !(((stk.take n).drop (n - m)).any (· != p))
  | 0, n, _, hl => by
    have : (stk.take n).drop (n - 0) = [] := by apply List.drop_eq_nil_of_le; simp; omega
    cases n <;> simp [popsOk, this]
  | m + 1, 0, h, _ => by omega
  | m + 1, n + 1, h, hl => by
    have ih := popsOk_spec stk p m n (by omega) (by omega)
    have hn : n < stk.length := by omega
    have e : (stk.take (n + 1)).drop (n + 1 - (m + 1)) = (stk.take n).drop (n - m) ++ [stk[n]] := by
      rw [List.take_succ_eq_append_getElem hn, Nat.add_sub_add_right, List.drop_append_of_le_length (by simp; omega)]
    simp only [popsOk, ih, e, List.any_append, List.getElem?_eq_getElem hn]
    simp [Bool.and_comm]
    cases hq : (stk[n] == p) with
    | true => simp at hq; simp [hq]
    | false => simp at hq; simp [hq]

def kindS (wide vars : Int) (t : List (Int × BitVec 64)) : Int :=
  if 1 ≤ wide ∧ wide ≤ 64 ∧ 1 ≤ vars ∧ vars ≤ 4 ∧ 1 ≤ t.length ∧ t.length ≤ 48 then (match kfold wide vars t [] with | some [k] => k | _ => 0) else 0

theorem c44_inner (wide vars p o : Int) (t : List (Int × BitVec 64)) (i len : Int) (stk : List Int) (hs : stk.length < 100) (K : List AT) : ∀ (m n : Nat) (z : Int), m ≤ n → n ≤ stk.length → z = m →
    go T X F44 0 (.code F44_b0 :: .inLoop [(0, .keep), (1, .keep), (7, .keep), (10, .keep), (11, .keep), (12, .keep), (27, .keep), (28, .keep), (29, .keep)] F44_l0 :: .inBlock 2 :: K)
      [(0, .d (.int .i64 wide)), (1, .d (.int .i64 vars)), (7, .hs 0 1 0 n), (10, .d (.int .i64 z)), (11, .d (.int .i64 p)), (12, .d (.int .i64 o)), (27, .d (tsl t)), (28, .d (.int .i64 len)), (29, .d (.int .i64 i))] [.arr 1 (ints stk) true] =
    if popsOk stk p n m = true then go T X F44 0 K [(0, .d (.int .i64 wide)), (1, .d (.int .i64 vars)), (7, .hs 0 1 0 (n - m)), (10, .d (.int .i64 0)), (11, .d (.int .i64 p)), (12, .d (.int .i64 o)), (27, .d (tsl t)), (28, .d (.int .i64 len)), (29, .d (.int .i64 i)), (56, .d (.bool false))] [.arr 1 (ints stk) true]
      else some (.d (.int .i64 0), []) := by
  intro m
  induction m with
  | zero =>
    intro n z h1 h2 hz
    subst hz
    have hp : popsOk stk p n 0 = true := by cases n <;> rfl
    simp [F44_b0, hp]
  | succ m ih =>
    intro n z h1 h2 hz
    subst hz
    obtain ⟨n, rfl⟩ : ∃ k, n = k + 1 := ⟨n - 1, by omega⟩
    have hn : n < stk.length := by omega
    have hw : wr ((n : Int) + 1 - 1) = n := by rw [wr_id] <;> omega
    have hw' : wr (n : Int) = n := by rw [wr_id] <;> omega
    have hm : (0 : Int) < (m : Int) + 1 := by omega
    have hnn : (n : Int) ≤ (n : Int) + 1 := by omega
    have hlt : (n : Int) < (n : Int) + 1 := by omega
    by_cases hq : stk[n] = p
    · have hp : popsOk stk p (n + 1) (m + 1) = popsOk stk p n m := by simp [popsOk, List.getElem?_eq_getElem hn, hq]
      have := ih n (wr (m : Int)) (by omega) (by omega) (by rw [wr_id] <;> omega)
      simp only [ints, tsl] at this
      simp [F44_b0, hm, hw', ints, hn, hq, tsl, hnn, hlt]
      rw [go_inLoop]
      simp
      rw [this, hp]
    · have hp : popsOk stk p (n + 1) (m + 1) = false := by simp [popsOk, List.getElem?_eq_getElem hn, hq]
      simp [F44_b0, hm, hw', ints, hn, hq, tsl, hnn, hlt]
      simp [fin, F44, hp]

theorem part_S {op : Int} (h : many op ≠ 0) : partS op = part op := by
  unfold many at h
  unfold partS
  have h1 : ¬ (op = 1 ∨ op = 2) := by
    rintro (rfl | rfl) <;> simp at h
  have h2 : ¬ op = 20 := by
    rintro rfl; simp at h
  rw [if_neg h1, if_neg h2]

def kres : Option (List Int) → Int
  | some [k] => k
  | _ => 0

theorem kstep_S (wide vars : Int) (x : Int × BitVec 64) (stk : List Int) : kstep wide vars x stk =
    if ownK x.1 = 0 ∨ leafOk wide vars x = false ∨ (stk.length : Int) < many x.1 then none
    else if popsOk stk (partS x.1) stk.length (many x.1).toNat = true then some (stk.take (stk.length - (many x.1).toNat) ++ [ownK x.1]) else none := by
  unfold kstep
  by_cases h1 : ownK x.1 = 0 ∨ leafOk wide vars x = false ∨ (stk.length : Int) < many x.1
  · rw [if_pos h1, if_pos]
    rcases h1 with h1 | h1 | h1
    · exact .inl h1
    · exact .inr (.inl h1)
    · exact .inr (.inr (.inl h1))
  · rw [if_neg h1]
    have hm := many_cases x.1
    have h4 : (many x.1).toNat ≤ stk.length := by
      have : ¬ (stk.length : Int) < many x.1 := fun q => h1 (.inr (.inr q))
      omega
    have hp : popsOk stk (partS x.1) stk.length (many x.1).toNat = !((stk.drop (stk.length - (many x.1).toNat)).any (· != part x.1)) := by
      rw [popsOk_spec stk _ _ _ h4 (Nat.le_refl _), List.take_length]
      by_cases h0 : many x.1 = 0
      · simp [h0]
      · rw [part_S h0]
    cases hq : (stk.drop (stk.length - (many x.1).toNat)).any (· != part x.1) with
    | true =>
      rw [hq] at hp
      rw [if_pos (.inr (.inr (.inr rfl))), hp]
      rfl
    | false =>
      rw [hq] at hp
      rw [hp, if_neg]
      · rfl
      · rintro (q | q | q | q)
        · exact h1 (.inl q)
        · exact h1 (.inr (.inl q))
        · exact h1 (.inr (.inr q))
        · cases q

set_option maxHeartbeats 1000000 in
theorem c44_loop (wide vars : Int) (t : List (Int × BitVec 64)) (ht : t.length ≤ 48) : ∀ (suf pre : List (Int × BitVec 64)) (z : Int) (stk : List Int), t = pre ++ suf → z = pre.length → stk.length ≤ pre.length →
    go T X F44 0 [.code F44_b1, .inLoop [(0, .keep), (1, .keep), (7, .ow 1), (27, .keep), (28, .keep), (29, .keep)] F44_l1, .inBlock 0, .code (.kp [(7, .keep)] F44_t2)]
      [(0, .d (.int .i64 wide)), (1, .d (.int .i64 vars)), (7, .hs 0 1 0 stk.length), (27, .d (tsl t)), (28, .d (.int .i64 t.length)), (29, .d (.int .i64 z))] [.arr 1 (ints stk) true] =
    some (.d (.int .i64 (kres (kfold wide vars suf stk))), []) := by
  intro suf
  induction suf with
  | nil =>
    intro pre z stk hx hz hs
    subst hz
    have : t.length = pre.length := by simp [hx]
    by_cases hl : stk.length = 1
    · obtain ⟨k, rfl⟩ := List.length_eq_one_iff.1 hl
      simp [F44_b1, this, F44_t2, kfold, kres, ints]
      simp [fin, F44]
    · have hl' : ¬ (stk.length : Int) = 1 := by omega
      have hk : kres (some stk) = 0 := by
        match stk, hl with
        | [], _ => rfl
        | [k], h => simp at h
        | _ :: _ :: _, _ => rfl
      simp [F44_b1, this, F44_t2, kfold, hk, hl, hl']
      simp [fin, F44]
  | cons x suf ih =>
    intro pre z stk hx hz hs
    subst hz
    have h1 : pre.length < t.length := by simp [hx]
    have h2 : t[pre.length] = x := by simp [hx]
    have hm := many_cases x.1
    have hla := c43 wide vars x
    have hks := kstep_S wide vars x stk
    by_cases q1 : ownK x.1 = 0
    · rw [if_pos (.inl q1)] at hks
      simp [F44_b1, h1, tsl, h2, nodeV, node, c40, q1]
      simp [fin, F44, kfold, hks, kres]
    cases q2 : leafOk wide vars x with
    | false =>
      rw [q2] at hla
      rw [if_pos (.inr (.inl q2))] at hks
      simp [F44_b1, h1, tsl, h2, nodeV, node, c40, q1, hla]
      simp [fin, F44, kfold, hks, kres]
    | true =>
    rw [q2] at hla
    by_cases q3 : (stk.length : Int) < many x.1
    · rw [if_pos (.inr (.inr q3))] at hks
      simp [F44_b1, h1, tsl, h2, nodeV, node, c40, q1, hla, q3]
      simp [fin, F44, kfold, hks, kres]
    have hno : ¬ (ownK x.1 = 0 ∨ leafOk wide vars x = false ∨ (stk.length : Int) < many x.1) := by
      rintro (q | q | q)
      · exact q1 q
      · rw [q2] at q; cases q
      · exact q3 q
    rw [if_neg hno] at hks
    have hin := fun K => c44_inner wide vars (partS x.1) (ownK x.1) t pre.length t.length stk (by omega) K (many x.1).toNat stk.length (many x.1) (by omega) (Nat.le_refl _) (by omega)
    simp only [ints, tsl] at hin
    cases q4 : popsOk stk (partS x.1) stk.length (many x.1).toNat with
    | false =>
      rw [q4] at hks hin
      simp [F44_b1, h1, tsl, h2, nodeV, node, c40, q1, hla, q3, ints]
      rw [go_inLoop]
      simp
      rw [hin]
      simp [kfold, hks, kres]
    | true =>
      rw [q4] at hks hin
      have q5 : stk.length - (many x.1).toNat + 1 ≤ maxApp := by simp only [maxApp]; omega
      have := ih (pre ++ [x]) (wr ((pre.length : Int) + 1)) (stk.take (stk.length - (many x.1).toNat) ++ [ownK x.1]) (by simp [hx]) (by rw [wr_id (by omega) (by omega)]; simp) (by simp; omega)
      simp [ints, List.map_take] at this
      simp [F44_b1, h1, tsl, h2, nodeV, node, c40, q1, hla, q3, ints]
      rw [go_inLoop]
      simp
      rw [hin]
      simp [F44_t0, q5]
      simp [F44_t1]
      rw [go_inLoop]
      simp
      simp only [kfold, hks]
      exact this

theorem c44 (wide vars : Int) (t : List (Int × BitVec 64)) (hl : t.length < 1000000) : acall T X 44 [.d (.int .i64 wide), .d (.int .i64 vars), .d (tsl t)] [] = some (.d (.int .i64 (kindS wide vars t)), []) := by
  have out : fin F44 0 [(6, .d (.int .i64 0))] [] = some (.d (.int .i64 0), []) := by simp [fin, F44]
  by_cases h1 : 1 ≤ wide
  case neg => simp [e44, F44_c, c41, h1, out, kindS]
  by_cases h2 : wide ≤ 64
  case neg => simp [e44, F44_c, c41, h1, h2, out, kindS]
  by_cases h3 : 1 ≤ vars
  case neg => simp [e44, F44_c, c41, c39, h1, h2, h3, out, kindS]
  by_cases h4 : vars ≤ 4
  case neg => simp [e44, F44_c, c41, c39, h1, h2, h3, h4, out, kindS]
  by_cases h5 : 1 ≤ t.length
  case neg =>
    have h5' : ¬ (1 : Int) ≤ t.length := by omega
    simp [e44, F44_c, c41, c39, h1, h2, h3, h4, h5', tsl, out, kindS, h5]
  by_cases h6 : t.length ≤ 48
  case neg =>
    have h5' : (1 : Int) ≤ t.length := by omega
    have h6' : ¬ (t.length : Int) ≤ 48 := by omega
    simp [e44, F44_c, c41, c39, h1, h2, h3, h4, h5', h6', tsl, out, kindS, h5, h6]
  have h5' : (1 : Int) ≤ t.length := by omega
  have h6' : (t.length : Int) ≤ 48 := by omega
  have := c44_loop wide vars t h6 t [] 0 [] rfl rfl (Nat.le_refl _)
  simp only [ints, tsl, List.map_nil, List.length_nil] at this
  simp [e44, F44_c, c41, c39, h1, h2, h3, h4, h5', h6', tsl]
  rw [go_inLoop]
  simp
  rw [this]
  simp [kindS, h1, h2, h3, h4, h5, h6, kres]
end Go.Proofs.Ytghhjbbildemiaa.AM

namespace Go.Proofs.Ytghhjbbildemiaa.AM
open Go

theorem ownK_cases (op : Int) : ownK op = 0 ∨ ownK op = 1 ∨ ownK op = 2 := by
  unfold ownK; split <;> (try split) <;> simp

theorem kstep_pos {wide vars : Int} {x : Int × BitVec 64} {stk stk' : List Int} (h : kstep wide vars x stk = some stk') (hp : ∀ k ∈ stk, 0 < k) : ∀ k ∈ stk', 0 < k := by
  unfold kstep at h
  split at h
  · cases h
  · rename_i hn
    cases h
    intro k hk
    rw [List.mem_append] at hk
    rcases hk with hk | hk
    · exact hp k (List.mem_of_mem_take hk)
    · simp at hk
      subst hk
      have := ownK_cases x.1
      have h0 : ownK x.1 ≠ 0 := fun q => hn (.inl q)
      omega

theorem kfold_pos {wide vars : Int} : ∀ {t : List (Int × BitVec 64)} {stk stk' : List Int}, kfold wide vars t stk = some stk' → (∀ k ∈ stk, 0 < k) → ∀ k ∈ stk', 0 < k
  | [], stk, stk', h, hp => by simp [kfold] at h; subst h; exact hp
  | x :: t, stk, stk', h, hp => by
    simp only [kfold] at h
    cases hs : kstep wide vars x stk with
    | none => rw [hs] at h; cases h
    | some s => rw [hs] at h; exact kfold_pos h (kstep_pos hs hp)

theorem kindS_good (wide vars : Int) (t : List (Int × BitVec 64)) : decide (0 < kindS wide vars t) = goodT wide vars t := by
  unfold kindS goodT
  by_cases h : 1 ≤ wide ∧ wide ≤ 64 ∧ 1 ≤ vars ∧ vars ≤ 4 ∧ 1 ≤ t.length ∧ t.length ≤ 48
  · rw [if_pos h]
    obtain ⟨h1, h2, h3, h4, h5, h6⟩ := h
    simp only [h1, h2, h3, h4, h5, h6, decide_true, Bool.and_self, Bool.true_and]
    cases hk : kfold wide vars t [] with
    | none => rfl
    | some stk =>
      match stk, hk with
      | [], _ => rfl
      | [k], hk =>
        have := kfold_pos hk (by simp) k (by simp)
        simp [this]
      | _ :: _ :: _, _ => simp
  · rw [if_neg h]
    simp only [Int.lt_irrefl, decide_false]
    symm
    rw [Bool.eq_false_iff]
    intro hb
    simp only [Bool.and_eq_true, decide_eq_true_eq] at hb
    exact h ⟨hb.1.1.1.1, hb.1.1.1.2, hb.1.1.2.1, hb.1.1.2.2, hb.1.2.1, hb.1.2.2⟩

theorem c45 (wide vars : Int) (t : List (Int × BitVec 64)) (hl : t.length < 1000000) : acall T X 45 [.d (.int .i64 wide), .d (.int .i64 vars), .d (tsl t)] [] = some (.d (.bool (goodT wide vars t)), []) := by
  have hc := c44 wide vars t hl
  have hk := kindS_good wide vars t
  simp only [tsl] at hc ⊢
  simp [e45, F45_c, hc]
  simp [fin, F45, ← hk]

/-! ### Intervals -/
/-- A good interval. -/
def goodS (wide : Int) (s : BitVec 64 × BitVec 64) : Bool := gw wide s.2 && decide (s.1 ≤ s.2)
def goodSS (wide : Int) (ss : List (BitVec 64 × BitVec 64)) : Bool := (decide (1 ≤ ss.length) && decide (ss.length ≤ 4)) && ss.all (goodS wide)

theorem c21 (wide : Int) (s : BitVec 64 × BitVec 64) : acall T X 21 [.d (.int .i64 wide), .agg [.d (.w s.1), .d (.w s.2)]] [] = some (.d (.bool (goodS wide s)), []) := by
  cases h : gw wide s.2 with
  | true =>
    simp [e21, F21_c, c20, h]
    simp [fin, F21, goodS, h]
  | false =>
    simp [e21, F21_c, c20, h]
    simp [fin, F21, goodS, h]

theorem c22 (wide : Int) (s : BitVec 64 × BitVec 64) : acall T X 22 [.agg [.d (.w s.1), .d (.w s.2)], .eptr [.int .i64 wide] 0] [] = some (.d (.bool (!goodS wide s)), []) := by
  simp [e22, F22_c, c21]
  simp [fin, F22]

theorem index16 (g : Nat) (caps : List AV) (hk : CapOk caps) (p : BitVec 64 × BitVec 64 → Bool) (hp : ∀ x, acall T X g (.agg [.d (.w x.1), .d (.w x.2)] :: caps) [] = some (.d (.bool (p x)), [])) (xs : List (BitVec 64 × BitVec 64)) (hl : xs.length < 1000000) :
    Ev (acall T X 16 [.d (ssl xs), .fn g caps] []) fun r => ∃ n : Int, r = (.d (.int .i64 n), []) ∧ (0 ≤ n ↔ xs.any p = true) := by
  obtain ⟨hc, hc2, hc3⟩ := hk
  have loop : ∀ (suf pre : List (BitVec 64 × BitVec 64)) (z : Int), xs = pre ++ suf → z = pre.length →
      Ev (go T X F16 0 [.code F16_b0, .inLoop [(0, .keep), (1, .keep), (7, .keep), (8, .keep)] F16_l0, .inBlock 0, .code (.kp [] F16_t0)] [(0, .d (ssl xs)), (1, .fn g caps), (7, .d (.int .i64 xs.length)), (8, .d (.int .i64 z))] []) fun r => ∃ n : Int, r = (.d (.int .i64 n), []) ∧ (0 ≤ n ↔ suf.any p = true) := by
    intro suf
    induction suf with
    | nil =>
      intro pre z hx hz
      subst hz
      have : xs.length = pre.length := by simp [hx]
      simp [F16_b0, this, F16_t0]
      simp [fin, F16]
    | cons x suf ih =>
      intro pre z hx hz
      subst hz
      have h1 : pre.length < xs.length := by simp [hx]
      have h2 : xs[pre.length] = x := by simp [hx]
      cases hpx : p x with
      | true =>
        simp [F16_b0, h1, ssl, spanC, h2, hc, hp, hpx]
        simp [fin, F16]
      | false =>
        have := ih (pre ++ [x]) (wr ((pre.length : Int) + 1)) (by simp [hx]) (by rw [wr_id (by omega) (by omega)]; simp)
        simp [ssl] at this
        simp [F16_b0, h1, ssl, h2, spanC, hc, hp, hpx]
        rw [go_inLoop]
        simp [hc2, hc3]
        exact this
  have := loop xs [] 0 rfl rfl
  simp [e16, F16_c, ssl] at this ⊢
  rw [go_inLoop]
  simp [hc2, hc3]
  exact this

theorem contains17 (g : Nat) (caps : List AV) (hk : CapOk caps) (p : BitVec 64 × BitVec 64 → Bool) (hp : ∀ x, acall T X g (.agg [.d (.w x.1), .d (.w x.2)] :: caps) [] = some (.d (.bool (p x)), [])) (xs : List (BitVec 64 × BitVec 64)) (hl : xs.length < 1000000) :
    acall T X 17 [.d (ssl xs), .fn g caps] [] = some (.d (.bool (xs.any p)), []) := by
  obtain ⟨r, h, n, rfl, hn⟩ := index16 g caps hk p hp xs hl
  obtain ⟨hc, hc2, hc3⟩ := hk
  have hb : decide (0 ≤ n) = xs.any p := by
    rw [Bool.eq_iff_iff]; simpa using hn
  simp only [ssl] at h ⊢
  simp [e17, F17_c, hc, h, hb]
  simp [fin, F17, hb]

theorem not_any_all {α : Type} (p : α → Bool) : ∀ l : List α, (!(l.any fun s => !p s)) = l.all p
  | [] => rfl
  | x :: xs => by
    simp only [List.any_cons, List.all_cons, Bool.not_or, Bool.not_not, not_any_all p xs]

theorem c23 (wide : Int) (ss : List (BitVec 64 × BitVec 64)) (hl : ss.length < 1000000) : acall T X 23 [.d (.int .i64 wide), .d (ssl ss)] [] = some (.d (.bool (goodSS wide ss)), []) := by
  have hc := contains17 22 [.eptr [.int .i64 wide] 0] (capOk_one _) (fun s => !goodS wide s) (fun s => c22 wide s) ss hl
  simp only [ssl] at hc ⊢
  have ha := not_any_all (goodS wide) ss
  by_cases h1 : 1 ≤ ss.length
  · by_cases h2 : ss.length ≤ 4
    · have h1' : (1 : Int) ≤ ss.length := by omega
      have h2' : (ss.length : Int) ≤ 4 := by omega
      simp [e23, F23_c, c15, h1', h2', hc]
      rw [ha]
      simp [fin, F23, goodSS, h1, h2]
    · have h1' : (1 : Int) ≤ ss.length := by omega
      have h2' : ¬ (ss.length : Int) ≤ 4 := by omega
      simp [e23, F23_c, c15, h1', h2']
      simp [fin, F23, goodSS, h2]
  · have h1' : ¬ (1 : Int) ≤ ss.length := by omega
    simp [e23, F23_c, c15, h1']
    simp [fin, F23, goodSS, h1]

theorem c46 (wide : Int) (a b : BitVec 64) : acall T X 46 [.d (.int .i64 wide), .d (.w a), .d (.w b)] [] = some (.d (.bool (gw wide a && gw wide b)), []) := by
  cases h : gw wide a with
  | true =>
    simp [e46, F46_c, c42, h]
    simp [fin, F46]
  | false =>
    simp [e46, F46_c, c42, h]
    simp [fin, F46]

theorem gw_le {wide : Int} {a b : BitVec 64} (h : gw wide b = true) (hab : a ≤ b) : gw wide a = true := by
  simp only [gw, Bool.and_eq_true, decide_eq_true_eq] at h ⊢
  rw [BitVec.le_def] at hab
  exact ⟨h.1, h.2.1, by omega⟩

theorem c47 (wide : Int) (s : BitVec 64 × BitVec 64) : acall T X 47 [.d (.int .i64 wide), .agg [.d (.w s.1), .d (.w s.2)]] [] = some (.d (.bool (goodS wide s)), []) := by
  have hg : (gw wide s.1 && gw wide s.2 && decide (s.1 ≤ s.2)) = goodS wide s := by
    unfold goodS
    by_cases hle : s.1 ≤ s.2
    · cases h2 : gw wide s.2 with
      | true => simp [gw_le h2 hle, hle]
      | false => simp
    · simp [hle]
  cases h : gw wide s.1 && gw wide s.2 with
  | true =>
    rw [h] at hg
    simp [e47, F47_c, c46, h]
    simp [fin, F47, ← hg]
  | false =>
    rw [h] at hg
    simp [e47, F47_c, c46, h]
    simp [fin, F47, ← hg]
end Go.Proofs.Ytghhjbbildemiaa.AM

namespace Go.Proofs.Ytghhjbbildemiaa.AM
open Go

abbrev Nd := Int × BitVec 64
inductive Tr where
  | lf (x : Nd)
  | un (x : Nd) (a : Tr)
  | bi (x : Nd) (a b : Tr)

def Tr.flat : Tr → List Nd
  | .lf x => [x]
  | .un x a => a.flat ++ [x]
  | .bi x a b => a.flat ++ (b.flat ++ [x])
def Tr.root : Tr → Nd
  | .lf x => x
  | .un x _ => x
  | .bi x _ _ => x
def Tr.kind (t : Tr) : Int := ownK t.root.1
def Tr.good (wide vars : Int) : Tr → Prop
  | .lf x => many x.1 = 0 ∧ ownK x.1 ≠ 0 ∧ leafOk wide vars x = true
  | .un x a => many x.1 = 1 ∧ ownK x.1 ≠ 0 ∧ leafOk wide vars x = true ∧ a.kind = part x.1 ∧ a.good wide vars
  | .bi x a b => many x.1 = 2 ∧ ownK x.1 ≠ 0 ∧ leafOk wide vars x = true ∧ a.kind = part x.1 ∧ b.kind = part x.1 ∧ a.good wide vars ∧ b.good wide vars

theorem Tr.flat_pos (t : Tr) : 1 ≤ t.flat.length := by cases t <;> simp [Tr.flat] <;> omega

/-- What folds is a list of trees. -/
theorem parse {wide vars : Int} : ∀ {t : List Nd} {fs : List Tr} {stk : List Int}, kfold wide vars t (fs.map Tr.kind) = some stk → (∀ r ∈ fs, r.good wide vars) →
    ∃ gs : List Tr, stk = gs.map Tr.kind ∧ (∀ r ∈ gs, r.good wide vars) ∧ gs.flatMap Tr.flat = fs.flatMap Tr.flat ++ t
  | [], fs, stk, h, hg => by
    simp [kfold] at h; subst h
    exact ⟨fs, rfl, hg, by simp⟩
  | x :: t, fs, stk, h, hg => by
    simp only [kfold] at h
    cases hs : kstep wide vars x (fs.map Tr.kind) with
    | none => rw [hs] at h; cases h
    | some s =>
      rw [hs] at h
      simp only at h
      unfold kstep at hs
      split at hs
      · cases hs
      · rename_i hno
        cases hs
        have n1 : ownK x.1 ≠ 0 := fun q => hno (.inl q)
        have n2 : leafOk wide vars x = true := by
          cases hl : leafOk wide vars x with
          | true => rfl
          | false => exact absurd (.inr (.inl hl)) hno
        have n3 : ¬ ((fs.map Tr.kind).length : Int) < many x.1 := fun q => hno (.inr (.inr (.inl q)))
        have n4 : ∀ k ∈ (fs.map Tr.kind).drop ((fs.map Tr.kind).length - (many x.1).toNat), k = part x.1 := by
          intro k hk
          have : ¬ ((fs.map Tr.kind).drop ((fs.map Tr.kind).length - (many x.1).toNat)).any (· != part x.1) = true := fun q => hno (.inr (.inr (.inr q)))
          simp only [List.any_eq_true, not_exists, not_and, bne_iff_ne, ne_eq, Classical.not_not] at this
          exact this k hk
        simp only [List.length_map] at n3 n4 h
        rw [← List.map_drop] at n4
        rw [← List.map_take] at h
        -- the operands and the rest
        have step : ∀ (r : Tr), r.root = x → r.good wide vars → (fs.take (fs.length - (many x.1).toNat)).flatMap Tr.flat ++ r.flat = fs.flatMap Tr.flat ++ [x] →
            ∃ gs : List Tr, stk = gs.map Tr.kind ∧ (∀ r ∈ gs, r.good wide vars) ∧ gs.flatMap Tr.flat = fs.flatMap Tr.flat ++ (x :: t) := by
          intro r hr hgr hf
          have e : (fs.take (fs.length - (many x.1).toNat)).map Tr.kind ++ [ownK x.1] = (fs.take (fs.length - (many x.1).toNat) ++ [r]).map Tr.kind := by
            simp [Tr.kind, hr]
          rw [e] at h
          obtain ⟨gs, g1, g2, g3⟩ := parse h (by
            intro q hq
            rw [List.mem_append] at hq
            rcases hq with hq | hq
            · exact hg q (List.mem_of_mem_take hq)
            · simp at hq; subst hq; exact hgr)
          refine ⟨gs, g1, g2, ?_⟩
          rw [g3, List.flatMap_append]
          simp only [List.flatMap_cons, List.flatMap_nil, List.append_nil]
          rw [hf]; simp
        rcases many_cases x.1 with hm | hm | hm
        · refine step (.lf x) rfl ⟨hm, n1, n2⟩ ?_
          rw [hm]; simp [Tr.flat]
        · rw [hm] at n3 n4
          have hlen : fs.length - 1 < fs.length := by
            simp at n3; omega
          have hd : fs.drop (fs.length - (1 : Int).toNat) = [fs[fs.length - 1]] := by
            show fs.drop (fs.length - 1) = _
            rw [List.drop_eq_getElem_cons hlen]
            congr 1
            apply List.drop_eq_nil_of_le; omega
          have hk : (fs[fs.length - 1]).kind = part x.1 := n4 _ (by rw [hd]; simp)
          refine step (.un x fs[fs.length - 1]) rfl ⟨hm, n1, n2, hk, hg _ (List.getElem_mem hlen)⟩ ?_
          rw [hm]
          have e : fs.flatMap Tr.flat = (fs.take (fs.length - (1 : Int).toNat)).flatMap Tr.flat ++ (fs.drop (fs.length - (1 : Int).toNat)).flatMap Tr.flat := by
            rw [← List.flatMap_append, List.take_append_drop]
          rw [e, hd]
          simp [Tr.flat]
        · rw [hm] at n3 n4
          have hl2 : 2 ≤ fs.length := by omega
          have hlen1 : fs.length - 2 < fs.length := by omega
          have hlen2 : fs.length - 2 + 1 < fs.length := by omega
          have hd : fs.drop (fs.length - (2 : Int).toNat) = [fs[fs.length - 2], fs[fs.length - 2 + 1]] := by
            show fs.drop (fs.length - 2) = _
            rw [List.drop_eq_getElem_cons hlen1, List.drop_eq_getElem_cons hlen2]
            congr 2
            apply List.drop_eq_nil_of_le; omega
          have hk1 : (fs[fs.length - 2]).kind = part x.1 := n4 _ (by rw [hd]; simp)
          have hk2 : (fs[fs.length - 2 + 1]).kind = part x.1 := n4 _ (by rw [hd]; simp)
          refine step (.bi x fs[fs.length - 2] fs[fs.length - 2 + 1]) rfl ⟨hm, n1, n2, hk1, hk2, hg _ (List.getElem_mem hlen1), hg _ (List.getElem_mem hlen2)⟩ ?_
          rw [hm]
          have e : fs.flatMap Tr.flat = (fs.take (fs.length - (2 : Int).toNat)).flatMap Tr.flat ++ (fs.drop (fs.length - (2 : Int).toNat)).flatMap Tr.flat := by
            rw [← List.flatMap_append, List.take_append_drop]
          rw [e, hd]
          simp [Tr.flat]

/-- A good term is a good tree's text. -/
theorem goodT_tree {wide vars : Int} {t : List Nd} (h : goodT wide vars t = true) : ∃ r : Tr, r.good wide vars ∧ t = r.flat ∧ 1 ≤ wide ∧ wide ≤ 64 ∧ 1 ≤ vars ∧ vars ≤ 4 ∧ t.length ≤ 48 := by
  unfold goodT at h
  simp only [Bool.and_eq_true, decide_eq_true_eq] at h
  obtain ⟨⟨⟨⟨h1, h2⟩, h3, h4⟩, h5, h6⟩, h7⟩ := h
  cases hk : kfold wide vars t [] with
  | none => rw [hk] at h7; cases h7
  | some stk =>
    rw [hk] at h7
    simp only [beq_iff_eq] at h7
    obtain ⟨gs, g1, g2, g3⟩ := parse (fs := []) hk (by simp)
    have : gs.length = 1 := by rw [g1] at h7; simpa using h7
    obtain ⟨r, rfl⟩ := List.length_eq_one_iff.1 this
    exact ⟨r, g2 r (by simp), by simpa using g3.symm, h1, h2, h3, h4, h6⟩
end Go.Proofs.Ytghhjbbildemiaa.AM

namespace Go.Proofs.Ytghhjbbildemiaa.AM
open Go

theorem c48_loop (wide : Int) (ss : List (BitVec 64 × BitVec 64)) (hl : ss.length < 1000000) : ∀ (suf pre : List (BitVec 64 × BitVec 64)) (z : Int), ss = pre ++ suf → z = pre.length →
    go T X F48 0 [.code F48_b0, .inLoop [(0, .keep), (11, .keep), (12, .keep), (13, .keep)] F48_l0, .inBlock 0, .code (.kp [] F48_t0)] [(0, .d (.int .i64 wide)), (11, .d (ssl ss)), (12, .d (.int .i64 ss.length)), (13, .d (.int .i64 z))] [] = some (.d (.bool (suf.all (goodS wide))), []) := by
  intro suf
  induction suf with
  | nil =>
    intro pre z hx hz
    subst hz
    have : ss.length = pre.length := by simp [hx]
    simp [F48_b0, this, F48_t0]
    simp [fin, F48]
  | cons x suf ih =>
    intro pre z hx hz
    subst hz
    have h1 : pre.length < ss.length := by simp [hx]
    have h2 : ss[pre.length] = x := by simp [hx]
    have hg := c47 wide x
    cases hq : goodS wide x with
    | false =>
      rw [hq] at hg
      simp [F48_b0, h1, ssl, spanC, h2, hg]
      simp [fin, F48, hq]
    | true =>
      rw [hq] at hg
      have := ih (pre ++ [x]) (wr ((pre.length : Int) + 1)) (by simp [hx]) (by rw [wr_id (by omega) (by omega)]; simp)
      simp only [ssl] at this
      simp [F48_b0, h1, ssl, spanC, h2, hg]
      rw [go_inLoop]
      simp
      rw [this]
      simp [hq]

theorem c48 (wide : Int) (ss : List (BitVec 64 × BitVec 64)) (hl : ss.length < 1000000) : acall T X 48 [.d (.int .i64 wide), .d (ssl ss)] [] = some (.d (.bool (goodSS wide ss)), []) := by
  have := c48_loop wide ss hl ss [] 0 rfl rfl
  simp only [ssl] at this ⊢
  by_cases h1 : 1 ≤ ss.length
  · by_cases h2 : ss.length ≤ 4
    · have h1' : (1 : Int) ≤ ss.length := by omega
      have h2' : (ss.length : Int) ≤ 4 := by omega
      simp [e48, F48_c, c39, h1', h2']
      rw [go_inLoop]
      simp
      rw [this]
      simp [goodSS, h1, h2]
    · have h1' : (1 : Int) ≤ ss.length := by omega
      have h2' : ¬ (ss.length : Int) ≤ 4 := by omega
      simp [e48, F48_c, c39, h1', h2']
      simp [fin, F48, goodSS, h2]
  · have h1' : ¬ (1 : Int) ≤ ss.length := by omega
    simp [e48, F48_c, c39, h1']
    simp [fin, F48, goodSS, h1]

def mostW (a b : BitVec 64) : BitVec 64 := if b < a then a else b
def leastW (a b : BitVec 64) : BitVec 64 := if a < b then a else b
theorem c50 (a b : BitVec 64) : acall T X 50 [.d (.w a), .d (.w b)] [] = some (.d (.w (mostW a b)), []) := by
  by_cases h : b < a
  · simp [e50, F50_c, h]
    simp [fin, F50, mostW, h]
  · simp [e50, F50_c, h]
    simp [fin, F50, mostW, h]
theorem c51 (a b : BitVec 64) : acall T X 51 [.d (.w a), .d (.w b)] [] = some (.d (.w (leastW a b)), []) := by
  by_cases h : a < b
  · simp [e51, F51_c, h]
    simp [fin, F51, leastW, h]
  · simp [e51, F51_c, h]
    simp [fin, F51, leastW, h]

/-- The place where the tree of the node at a place begins. -/
theorem c49 (wide vars : Int) (t : List Nd) (ht : t.length < 1000000) : ∀ (r : Tr) (pre post : List Nd), r.good wide vars → t = pre ++ (r.flat ++ post) → ∀ z : Int, z = pre.length + r.flat.length - 1 →
    acall T X 49 [.d (tsl t), .d (.int .i64 z)] [] = some (.d (.int .i64 pre.length), [])
  | .lf x, pre, post, hg, he, z, hz => by
    obtain ⟨hm, _⟩ := hg
    simp only [Tr.flat] at he hz
    have hz' : z = pre.length := by simp at hz; omega
    subst hz'
    have h1 : pre.length < t.length := by simp [he]
    have h2 : t[pre.length] = x := by simp [he]
    simp [e49, F49_c, tsl, h1, h2, nodeV, node, c40, hm]
    rw [go_inLoop]
    simp [F49_b0, F49_t0]
    simp [fin, F49]
  | .un x a, pre, post, hg, he, z, hz => by
    obtain ⟨hm, _, _, _, hga⟩ := hg
    simp only [Tr.flat] at he hz
    have hp := a.flat_pos
    obtain ⟨k, hk⟩ : ∃ k, k = pre.length + a.flat.length := ⟨_, rfl⟩
    have hz' : z = (k : Int) := by simp at hz; omega
    subst hz'
    have h1 : k < t.length := by rw [he, hk]; simp
    have h2 : t[k] = x := by simp [he, hk]
    have hw : wr ((k : Int) - 1) = (k : Int) - 1 := by rw [wr_id] <;> omega
    have ih := c49 wide vars t ht a pre (x :: post) hga (by simp [he]) ((k : Int) - 1) (by omega)
    have hw1 : wr 0 = 0 := by rw [wr_id] <;> omega
    simp only [tsl] at ih
    simp [e49, F49_c, tsl, h1, h2, nodeV, node, c40, hm]
    rw [go_inLoop]
    simp [F49_b0, hw, ih, hw1]
    rw [go_inLoop]
    simp [F49_b0, F49_t0]
    simp [fin, F49]
  | .bi x a b, pre, post, hg, he, z, hz => by
    obtain ⟨hm, _, _, _, _, hga, hgb⟩ := hg
    simp only [Tr.flat] at he hz
    have hp := a.flat_pos
    have hpb := b.flat_pos
    obtain ⟨k, hk⟩ : ∃ k, k = pre.length + (a.flat.length + b.flat.length) := ⟨_, rfl⟩
    obtain ⟨j, hj⟩ : ∃ j, j = pre.length + a.flat.length := ⟨_, rfl⟩
    have hz' : z = (k : Int) := by simp at hz; omega
    subst hz'
    have h1 : k < t.length := by rw [he, hk]; simp
    have h2 : t[k] = x := by simp [he, hk]
    have hw : wr ((k : Int) - 1) = (k : Int) - 1 := by rw [wr_id] <;> omega
    have ihb := c49 wide vars t ht b (pre ++ a.flat) (x :: post) hgb (by simp [he]) ((k : Int) - 1) (by simp; omega)
    have iha := c49 wide vars t ht a pre (b.flat ++ (x :: post)) hga (by simp [he]) ((j : Int) - 1) (by omega)
    have hw2 : wr ((j : Int) - 1) = (j : Int) - 1 := by rw [wr_id] <;> omega
    have hw0 : wr 0 = 0 := by rw [wr_id] <;> omega
    have hw1 : wr 1 = 1 := by rw [wr_id] <;> omega
    rw [List.length_append, ← hj] at ihb
    simp only [tsl] at iha ihb
    simp [e49, F49_c, tsl, h1, h2, nodeV, node, c40, hm]
    rw [go_inLoop]
    simp [F49_b0, hw, ihb, hw1]
    rw [go_inLoop]
    simp [F49_b0, hw2, iha, hw0]
    rw [go_inLoop]
    simp [F49_b0, F49_t0]
    simp [fin, F49]
end Go.Proofs.Ytghhjbbildemiaa.AM

namespace Go.Proofs.Ytghhjbbildemiaa.AM
open Go

abbrev Sp := BitVec 64 × BitVec 64
def spV (s : Sp) : AV := .agg [.d (.w s.1), .d (.w s.2)]
def endW (wide : Nat) : BitVec 64 := cutK 18446744073709551615#64 wide
def fitsW (wide : Nat) (a b : BitVec 64) : Bool := b == 0#64 || decide (a ≤ endW wide / b)

theorem c52 (wide : Nat) (hw : wide < 1000) (a b : BitVec 64) : acall T X 52 [.d (.int .i64 wide), .d (.w a), .d (.w b)] [] = some (.d (.bool (fitsW wide a b)), []) := by
  by_cases h : b = 0#64
  · simp [e52, F52_c, h]
    simp [fin, F52, fitsW, h]
  · simp [e52, F52_c, h, c6 _ _ hw]
    have hb : (b == 0#64) = false := by simpa using h
    simp [fin, F52, fitsW, hb, endW]
    rfl

def numS (wide : Nat) (op : Int) (a b : Sp) : Sp :=
  if op = 3 ∧ a.2 ≤ endW wide - b.2 then (a.1 + b.1, a.2 + b.2)
  else if op = 5 ∧ fitsW wide a.2 b.2 = true then (a.1 * b.1, a.2 * b.2)
  else if op = 4 ∧ b.2 ≤ a.1 then (a.1 - b.2, a.2 - b.1)
  else if op = 6 ∧ 0#64 < b.1 then (a.1 / b.2, a.2 / b.1)
  else if op = 7 ∧ 0#64 < b.1 then (0#64, leastW a.2 (b.2 - 1#64))
  else if op = 7 ∨ op = 12 then (0#64, a.2)
  else if op = 8 then (0#64, leastW a.2 b.2)
  else if op = 9 then (mostW a.1 b.1, endW wide)
  else (0#64, endW wide)

theorem pos_ne {a b : BitVec 64} (h : a ≤ b) (h0 : 0#64 < a) : ¬ b = 0#64 := by
  rintro rfl
  rw [BitVec.le_def] at h
  rw [BitVec.lt_def] at h0
  simp at h h0
  omega
theorem pos_ne' {a : BitVec 64} (h0 : 0#64 < a) : ¬ a = 0#64 := by
  rintro rfl
  rw [BitVec.lt_def] at h0
  simp at h0

set_option maxHeartbeats 2000000 in
theorem c53 (wide : Nat) (hw : wide < 1000) (op : Int) (a b : Sp) (hb : b.1 ≤ b.2) : acall T X 53 [.d (.int .i64 wide), .d (.int .i64 op), spV a, spV b] [] = some (spV (numS wide op a b), []) := by
  have hend : cutK 18446744073709551615#64 wide = endW wide := rfl
  simp only [spV]
  by_cases h3 : op = 3
  · subst h3
    by_cases hc : a.2 ≤ endW wide - b.2
    · simp [e53, F53_c, c6 _ _ hw, hend, hc]
      simp [fin, F53, numS, hc]
    · simp [e53, F53_c, c6 _ _ hw, hend, hc]
      simp [fin, F53, numS, hc]
  by_cases h5 : op = 5
  · subst h5
    cases hc : fitsW wide a.2 b.2 with
    | true =>
      simp [e53, F53_c, c6 _ _ hw, hend, c52 _ hw, hc]
      simp [fin, F53, numS, hc]
    | false =>
      simp [e53, F53_c, c6 _ _ hw, hend, c52 _ hw, hc]
      simp [fin, F53, numS, hc]
  by_cases h4 : op = 4
  · subst h4
    by_cases hc : b.2 ≤ a.1
    · simp [e53, F53_c, c6 _ _ hw, hend, hc]
      simp [fin, F53, numS, hc]
    · simp [e53, F53_c, c6 _ _ hw, hend, hc]
      simp [fin, F53, numS, hc]
  by_cases h6 : op = 6
  · subst h6
    by_cases hc : 0#64 < b.1
    · have n1 := pos_ne hb hc
      have n2 := pos_ne' hc
      simp [e53, F53_c, c6 _ _ hw, hend, hc, n1, n2]
      simp [fin, F53, numS, hc]
    · simp [e53, F53_c, c6 _ _ hw, hend, hc]
      simp [fin, F53, numS, hc]
  by_cases h7 : op = 7
  · subst h7
    by_cases hc : 0#64 < b.1
    · simp [e53, F53_c, c6 _ _ hw, hend, hc, c51]
      simp [fin, F53, numS, hc]
    · simp [e53, F53_c, c6 _ _ hw, hend, hc]
      simp [fin, F53, numS, hc]
  by_cases h12 : op = 12
  · subst h12
    simp [e53, F53_c, c6 _ _ hw, hend]
    simp [fin, F53, numS]
  by_cases h8 : op = 8
  · subst h8
    simp [e53, F53_c, c6 _ _ hw, hend, c51]
    simp [fin, F53, numS]
  by_cases h9 : op = 9
  · subst h9
    simp [e53, F53_c, c6 _ _ hw, hend, c50]
    simp [fin, F53, numS]
  simp [e53, F53_c, c6 _ _ hw, hend, h3, h4, h5, h6, h7, h8, h9, h12]
  simp [fin, F53, numS, h3, h4, h5, h6, h7, h8, h9, h12]

def askS (op : Int) (a b : Sp) : Sp :=
  if op = 14 ∧ (a.2 < b.1 ∨ b.2 < a.1) then (0#64, 0#64)
  else if op = 14 ∧ a.1 = a.2 ∧ a = b then (1#64, 1#64)
  else if op = 15 ∧ a.2 < b.1 then (1#64, 1#64)
  else if op = 15 ∧ b.2 ≤ a.1 then (0#64, 0#64)
  else if op = 17 then (leastW a.1 b.1, leastW a.2 b.2)
  else if op = 18 then (mostW a.1 b.1, mostW a.2 b.2)
  else (0#64, 1#64)

set_option maxHeartbeats 2000000 in
theorem c54 (op : Int) (a b : Sp) : acall T X 54 [.d (.int .i64 op), spV a, spV b] [] = some (spV (askS op a b), []) := by
  simp only [spV]
  by_cases h14 : op = 14
  · subst h14
    by_cases hc : a.2 < b.1
    · simp [e54, F54_c, hc]
      simp [fin, F54, askS, hc]
    by_cases hd : b.2 < a.1
    · simp [e54, F54_c, hc, hd]
      simp [fin, F54, askS, hc, hd]
    by_cases he : a.1 = a.2
    · obtain ⟨al, ah⟩ := a
      obtain ⟨bl, bh⟩ := b
      simp only at hc hd he
      subst he
      by_cases hg : al = bl
      · subst hg
        by_cases hh : al = bh
        · subst hh
          simp [e54, F54_c]
          simp [fin, F54, askS]
        · simp [e54, F54_c, hd, hh]
          simp [fin, F54, askS, hd, hh]
      · simp [e54, F54_c, hc, hd, hg]
        simp [fin, F54, askS, hc, hd, hg]
    · simp [e54, F54_c, hc, hd, he]
      simp [fin, F54, askS, hc, hd, he]
  by_cases h15 : op = 15
  · subst h15
    by_cases hc : a.2 < b.1
    · simp [e54, F54_c, hc]
      simp [fin, F54, askS, hc]
    by_cases hd : b.2 ≤ a.1
    · simp [e54, F54_c, hc, hd]
      simp [fin, F54, askS, hc, hd]
    · simp [e54, F54_c, hc, hd]
      simp [fin, F54, askS, hc, hd]
  by_cases h17 : op = 17
  · subst h17
    simp [e54, F54_c, c51]
    simp [fin, F54, askS]
  by_cases h18 : op = 18
  · subst h18
    simp [e54, F54_c, c50]
    simp [fin, F54, askS]
  simp [e54, F54_c, h14, h15, h17, h18]
  simp [fin, F54, askS, h14, h15, h17, h18]
end Go.Proofs.Ytghhjbbildemiaa.AM

namespace Go.Proofs.Ytghhjbbildemiaa.AM
open Go

def notW (wide : Nat) (x : BitVec 64) : BitVec 64 := cutK (~~~x) wide
def spanS (wide : Nat) (ss : List Sp) : Tr → Sp
  | .lf x => if x.1 = 2 then ss.getD x.2.toNat (0#64, 0#64) else (x.2, x.2)
  | .un x a => if x.1 = 13 then (notW wide (spanS wide ss a).2, notW wide (spanS wide ss a).1) else (1#64 - (spanS wide ss a).2, 1#64 - (spanS wide ss a).1)
  | .bi x a b => if ownK x.1 = 1 then numS wide x.1 (spanS wide ss a) (spanS wide ss b) else askS x.1 (spanS wide ss a) (spanS wide ss b)

/-- An interval of words, or of truth values. -/
def okS (wide : Nat) (k : Int) (s : Sp) : Prop := s.1.toNat ≤ s.2.toNat ∧ (k = 1 → s.2.toNat < 2 ^ wide) ∧ (k = 2 → s.2.toNat ≤ 1)

theorem endW_toNat {wide : Nat} (h : wide ≤ 64) : (endW wide).toNat = 2 ^ wide - 1 := by
  rw [endW, cutK_toNat]
  show (2 ^ 64 - 1) % 2 ^ wide = _
  have e : (2 : Nat) ^ 64 = 2 ^ wide * 2 ^ (64 - wide) := by rw [← Nat.pow_add]; congr 1; omega
  have hp : 0 < 2 ^ wide := Nat.two_pow_pos _
  have hq : 0 < 2 ^ (64 - wide) := Nat.two_pow_pos _
  have : (2 : Nat) ^ 64 - 1 = (2 ^ wide - 1) + 2 ^ wide * (2 ^ (64 - wide) - 1) := by
    rw [e, Nat.mul_sub, Nat.mul_one]
    have : 2 ^ wide * 1 ≤ 2 ^ wide * 2 ^ (64 - wide) := Nat.mul_le_mul_left _ hq
    omega
  rw [this, Nat.add_mul_mod_self_left, Nat.mod_eq_of_lt (by omega)]

theorem notW_toNat {wide : Nat} (h : wide ≤ 64) {x : BitVec 64} (hx : x.toNat < 2 ^ wide) : (notW wide x).toNat = 2 ^ wide - 1 - x.toNat := by
  rw [notW, cutK_toNat, BitVec.toNat_not]
  have e : (2 : Nat) ^ 64 = 2 ^ wide * 2 ^ (64 - wide) := by rw [← Nat.pow_add]; congr 1; omega
  have hp : 0 < 2 ^ wide := Nat.two_pow_pos _
  have hq : 0 < 2 ^ (64 - wide) := Nat.two_pow_pos _
  have : (2 : Nat) ^ 64 - 1 - x.toNat = (2 ^ wide - 1 - x.toNat) + 2 ^ wide * (2 ^ (64 - wide) - 1) := by
    rw [e, Nat.mul_sub, Nat.mul_one]
    have : 2 ^ wide * 1 ≤ 2 ^ wide * 2 ^ (64 - wide) := Nat.mul_le_mul_left _ hq
    omega
  rw [this, Nat.add_mul_mod_self_left, Nat.mod_eq_of_lt (by omega)]

theorem fitsW_spec {wide : Nat} (h : wide ≤ 64) {a b : BitVec 64} (hf : fitsW wide a b = true) : a.toNat * b.toNat < 2 ^ wide := by
  have hp : 0 < 2 ^ wide := Nat.two_pow_pos _
  simp only [fitsW, Bool.or_eq_true, beq_iff_eq, decide_eq_true_eq] at hf
  rcases hf with rfl | hf
  · simpa using hp
  · by_cases hb : b.toNat = 0
    · rw [hb]; simpa using hp
    · rw [BitVec.le_def, BitVec.toNat_udiv, endW_toNat h] at hf
      have := Nat.mul_le_mul_right b.toNat hf
      have := Nat.div_mul_le_self (2 ^ wide - 1) b.toNat
      omega

theorem leastW_toNat (a b : BitVec 64) : (leastW a b).toNat = min a.toNat b.toNat := by
  unfold leastW
  split
  · rename_i h; rw [BitVec.lt_def] at h; omega
  · rename_i h; rw [BitVec.lt_def] at h; omega
theorem mostW_toNat (a b : BitVec 64) : (mostW a b).toNat = max a.toNat b.toNat := by
  unfold mostW
  split
  · rename_i h; rw [BitVec.lt_def] at h; omega
  · rename_i h; rw [BitVec.lt_def] at h; omega

theorem numS_ok {wide : Nat} (h : wide ≤ 64) (op : Int) {a b : Sp} (ha : okS wide 1 a) (hb : okS wide 1 b) : okS wide 1 (numS wide op a b) := by
  obtain ⟨a1, a2, _⟩ := ha
  obtain ⟨b1, b2, _⟩ := hb
  have a2 := a2 rfl
  have b2 := b2 rfl
  have hp : 0 < 2 ^ wide := Nat.two_pow_pos _
  have h64 : (2 : Nat) ^ wide ≤ 2 ^ 64 := Nat.pow_le_pow_right (by decide) h
  have h64' : (2 : Nat) ^ 64 = 18446744073709551616 := by decide
  have he := endW_toNat h
  have fin : ∀ s : Sp, s.1.toNat ≤ s.2.toNat → s.2.toNat < 2 ^ wide → okS wide 1 s := fun s h1 h2 => ⟨h1, fun _ => h2, fun q => absurd q (by decide)⟩
  unfold numS
  split
  · rename_i hc
    have hc2 := hc.2
    rw [BitVec.le_def, BitVec.toNat_sub_of_le (by rw [BitVec.le_def]; omega), he] at hc2
    apply fin <;> simp only [BitVec.toNat_add] <;> omega
  split
  · rename_i hc
    have hf := fitsW_spec h hc.2
    have hle : a.1.toNat * b.1.toNat ≤ a.2.toNat * b.2.toNat := Nat.mul_le_mul a1 b1
    apply fin
    · simp only [BitVec.toNat_mul]
      rw [Nat.mod_eq_of_lt (by omega), Nat.mod_eq_of_lt (by omega)]
      exact hle
    · simp only [BitVec.toNat_mul]
      rw [Nat.mod_eq_of_lt (by omega)]
      exact hf
  split
  · rename_i hc
    have hc2 := hc.2
    have q1 := BitVec.toNat_sub_of_le hc2
    rw [BitVec.le_def] at hc2
    have q2 := BitVec.toNat_sub_of_le (x := a.2) (y := b.1) (by rw [BitVec.le_def]; omega)
    apply fin
    · simp only [q1, q2]; omega
    · simp only [q2]; omega
  split
  · rename_i hc
    have hc2 := hc.2
    rw [BitVec.lt_def] at hc2
    simp at hc2
    apply fin
    · simp only [BitVec.toNat_udiv]
      exact Nat.div_le_div a1 b1 (by omega)
    · simp only [BitVec.toNat_udiv]
      exact Nat.lt_of_le_of_lt (Nat.div_le_self _ _) a2
  split
  · apply fin
    · simp
    · simp only [leastW_toNat]; omega
  split
  · exact fin _ (by simp) a2
  split
  · apply fin
    · simp
    · simp only [leastW_toNat]; omega
  split
  · apply fin
    · simp only [mostW_toNat, he]; omega
    · simp only [he]; omega
  · apply fin
    · simp
    · simp only [he]; omega

theorem askS_ok {wide : Nat} (op : Int) (k : Int) {a b : Sp} (ha : okS wide k a) (hb : okS wide k b) (hk : op = 17 ∨ op = 18 → k = 2) : okS wide 2 (askS op a b) := by
  obtain ⟨a1, _, a2⟩ := ha
  obtain ⟨b1, _, b2⟩ := hb
  have fin : ∀ s : Sp, s.1.toNat ≤ s.2.toNat → s.2.toNat ≤ 1 → okS wide 2 s := fun s h1 h2 => ⟨h1, fun q => absurd q (by decide), fun _ => h2⟩
  unfold askS
  split
  · exact fin _ (by simp) (by simp)
  split
  · exact fin _ (by simp) (by simp)
  split
  · exact fin _ (by simp) (by simp)
  split
  · exact fin _ (by simp) (by simp)
  split
  · rename_i h
    have a2 := a2 (hk (.inl h))
    have b2 := b2 (hk (.inl h))
    apply fin <;> simp only [leastW_toNat] <;> omega
  split
  · rename_i h
    have a2 := a2 (hk (.inr h))
    have b2 := b2 (hk (.inr h))
    apply fin <;> simp only [mostW_toNat] <;> omega
  · exact fin _ (by simp) (by simp)
end Go.Proofs.Ytghhjbbildemiaa.AM

namespace Go.Proofs.Ytghhjbbildemiaa.AM
open Go

theorem leaf_cases {op : Int} (h : many op = 0) (h' : ownK op ≠ 0) : op = 1 ∨ op = 2 ∨ op = 20 := by
  unfold many at h
  unfold ownK at h'
  split at h
  · omega
  · split at h
    · omega
    · split at h'
      · omega
      · split at h'
        · omega
        · omega
theorem un_cases {op : Int} (h : many op = 1) : op = 13 ∨ op = 19 := by
  unfold many at h
  split at h
  · assumption
  · split at h <;> omega
theorem bi_cases {op : Int} (h : many op = 2) : (3 ≤ op ∧ op ≤ 12) ∨ (14 ≤ op ∧ op ≤ 16) ∨ op = 17 ∨ op = 18 := by
  unfold many at h
  split at h
  · omega
  · split at h
    · omega
    · omega

theorem gw_lt {wide : Nat} {a : BitVec 64} (h : gw wide a = true) : a.toNat < 2 ^ wide := by
  simp only [gw, Bool.and_eq_true, decide_eq_true_eq] at h
  simpa using h.2.2
theorem goodS_ok {wide : Nat} {s : Sp} (h : goodS wide s = true) : okS wide 1 s := by
  simp only [goodS, Bool.and_eq_true, decide_eq_true_eq] at h
  exact ⟨by have := h.2; rw [BitVec.le_def] at this; exact this, fun _ => gw_lt h.1, fun q => absurd q (by decide)⟩

theorem ofI_toNat {n : Nat} (h : n < 1000) : (ofI (n : Int)).toNat = n := by
  rw [ofI, BitVec.toNat_ofInt]; omega

theorem spanS_ok {wide : Nat} (hw : wide ≤ 64) {ss : List Sp} (hs : ∀ s ∈ ss, goodS wide s = true) (hl : ss.length < 1000) : ∀ r : Tr, r.good wide ss.length → okS wide r.kind (spanS wide ss r)
  | .lf x, hg => by
    obtain ⟨h1, h2, h3⟩ := hg
    rcases leaf_cases h1 h2 with h | h | h
    · have hk : Tr.kind (.lf x) = 1 := by simp [Tr.kind, Tr.root, ownK, h]
      rw [hk]
      simp only [leafOk, h] at h3
      simp only [spanS, h]
      exact ⟨Nat.le_refl _, fun _ => gw_lt (by simpa using h3), fun q => absurd q (by decide)⟩
    · have hk : Tr.kind (.lf x) = 1 := by simp [Tr.kind, Tr.root, ownK, h]
      rw [hk]
      simp [leafOk, h] at h3
      rw [BitVec.lt_def, ofI_toNat hl] at h3
      simp only [spanS, h, if_true, List.getD_eq_getElem?_getD, List.getElem?_eq_getElem h3, Option.getD_some]
      exact goodS_ok (hs _ (List.getElem_mem h3))
    · have hk : Tr.kind (.lf x) = 2 := by simp [Tr.kind, Tr.root, ownK, h]
      rw [hk]
      simp [leafOk, h] at h3
      rw [BitVec.le_def] at h3
      simp [spanS, h]
      exact ⟨Nat.le_refl _, fun q => absurd q (by decide), fun _ => by simpa using h3⟩
  | .un x a, hg => by
    obtain ⟨h1, h2, h3, h4, h5⟩ := hg
    have ih := spanS_ok hw hs hl a h5
    rw [h4] at ih
    have hp : 0 < 2 ^ wide := Nat.two_pow_pos _
    rcases un_cases h1 with h | h
    · have hk : Tr.kind (.un x a) = 1 := by simp [Tr.kind, Tr.root, ownK, h]
      rw [hk]
      obtain ⟨i1, i2, _⟩ := ih
      have i2 := i2 (by simp [part, h])
      simp only [spanS, h, if_true]
      refine ⟨?_, fun _ => ?_, fun q => absurd q (by decide)⟩
      · simp only [notW_toNat hw i2, notW_toNat hw (Nat.lt_of_le_of_lt i1 i2)]; omega
      · simp only [notW_toNat hw (Nat.lt_of_le_of_lt i1 i2)]; omega
    · have hk : Tr.kind (.un x a) = 2 := by simp [Tr.kind, Tr.root, ownK, h]
      rw [hk]
      obtain ⟨i1, _, i2⟩ := ih
      have i2 := i2 (by simp [part, h])
      have e1 := BitVec.toNat_sub_of_le (x := 1#64) (y := (spanS wide ss a).2) (by rw [BitVec.le_def]; simpa using i2)
      have e2 := BitVec.toNat_sub_of_le (x := 1#64) (y := (spanS wide ss a).1) (by rw [BitVec.le_def]; simp; omega)
      simp [spanS, h]
      refine ⟨?_, fun q => absurd q (by decide), fun _ => ?_⟩
      · simp only [e1, e2]; omega
      · simp only [e2]; simp
  | .bi x a b, hg => by
    obtain ⟨h1, h2, h3, h4, h5, h6, h7⟩ := hg
    have iha := spanS_ok hw hs hl a h6
    have ihb := spanS_ok hw hs hl b h7
    rw [h4] at iha
    rw [h5] at ihb
    rcases bi_cases h1 with h | h | h | h
    · have hk : ownK x.1 = 1 := by unfold ownK; rw [if_pos (by omega)]
      have hp : part x.1 = 1 := by unfold part; rw [if_pos (by omega)]
      rw [hp] at iha ihb
      simp only [Tr.kind, Tr.root, spanS, hk, if_true]
      exact numS_ok hw _ iha ihb
    · have hk : ownK x.1 = 2 := by unfold ownK; rw [if_neg (by omega), if_pos (by omega)]
      simp only [Tr.kind, Tr.root, spanS, hk]
      exact askS_ok _ _ iha ihb (by omega)
    · have hk : ownK x.1 = 2 := by simp [ownK, h]
      simp only [Tr.kind, Tr.root, spanS, hk]
      exact askS_ok _ _ iha ihb (fun _ => by simp [part, h])
    · have hk : ownK x.1 = 2 := by simp [ownK, h]
      simp only [Tr.kind, Tr.root, spanS, hk]
      exact askS_ok _ _ iha ihb (fun _ => by simp [part, h])
end Go.Proofs.Ytghhjbbildemiaa.AM

namespace Go.Proofs.Ytghhjbbildemiaa.AM
open Go

set_option maxHeartbeats 1000000 in
theorem c55 (wide : Nat) (hw : wide ≤ 64) (ss : List Sp) (hs : ∀ s ∈ ss, goodS wide s = true) (hl : ss.length < 1000) (t : List Nd) (ht : t.length < 1000000) : ∀ (r : Tr) (pre post : List Nd), r.good wide ss.length → t = pre ++ (r.flat ++ post) → ∀ z : Int, z = pre.length + r.flat.length - 1 →
    acall T X 55 [.d (.int .i64 wide), .d (tsl t), .d (.int .i64 z), .d (ssl ss)] [] = some (spV (spanS wide ss r), [])
  | .lf x, pre, post, hg, he, z, hz => by
    obtain ⟨hm, h2, h3⟩ := hg
    simp only [Tr.flat] at he hz
    have hz' : z = pre.length := by simp at hz; omega
    subst hz'
    have h1 : pre.length < t.length := by simp [he]
    have h4 : t[pre.length] = x := by simp [he]
    by_cases hv : x.1 = 2
    · simp [leafOk, hv] at h3
      rw [BitVec.lt_def, ofI_toNat hl] at h3
      simp [e55, F55_c, tsl, h1, h4, nodeV, node, c40, hm, hv, ssl, h3, spanC]
      simp [fin, F55, spanS, hv, spV, h3]
    · simp [e55, F55_c, tsl, h1, h4, nodeV, node, c40, hm, hv]
      simp [fin, F55, spanS, hv, spV]
  | .un x a, pre, post, hg, he, z, hz => by
    obtain ⟨hm, h2, h3, h4, hga⟩ := hg
    simp only [Tr.flat] at he hz
    have hp := a.flat_pos
    obtain ⟨k, hk⟩ : ∃ k, k = pre.length + a.flat.length := ⟨_, rfl⟩
    have hz' : z = (k : Int) := by simp at hz; omega
    subst hz'
    have h1 : k < t.length := by rw [he, hk]; simp
    have h5 : t[k] = x := by simp [he, hk]
    have hw1 : wr ((k : Int) - 1) = (k : Int) - 1 := by rw [wr_id] <;> omega
    have ih := c55 wide hw ss hs hl t ht a pre (x :: post) hga (by simp [he]) ((k : Int) - 1) (by omega)
    simp only [tsl, ssl, spV] at ih
    rcases un_cases hm with hx | hx
    · have hm' : many 13 = 1 := by simp [many]
      simp [e55, F55_c, tsl, h1, h5, nodeV, node, c40, hm', hx, hw1, ih, ssl, c6 _ wide (by omega)]
      simp [fin, F55, spanS, hx, spV, notW]
    · have hm' : many 19 = 1 := by simp [many]
      simp [e55, F55_c, tsl, h1, h5, nodeV, node, c40, hm', hx, hw1, ih, ssl]
      simp [fin, F55, spanS, hx, spV]
  | .bi x a b, pre, post, hg, he, z, hz => by
    obtain ⟨hm, h2, h3, h4, h5, hga, hgb⟩ := hg
    simp only [Tr.flat] at he hz
    have hp := a.flat_pos
    have hpb := b.flat_pos
    obtain ⟨k, hk⟩ : ∃ k, k = pre.length + (a.flat.length + b.flat.length) := ⟨_, rfl⟩
    obtain ⟨j, hj⟩ : ∃ j, j = pre.length + a.flat.length := ⟨_, rfl⟩
    have hz' : z = (k : Int) := by simp at hz; omega
    subst hz'
    have h1 : k < t.length := by rw [he, hk]; simp
    have h6 : t[k] = x := by simp [he, hk]
    have hw1 : wr ((k : Int) - 1) = (k : Int) - 1 := by rw [wr_id] <;> omega
    have hw2 : wr ((j : Int) - 1) = (j : Int) - 1 := by rw [wr_id] <;> omega
    have ihb := c55 wide hw ss hs hl t ht b (pre ++ a.flat) (x :: post) hgb (by simp [he]) ((k : Int) - 1) (by simp; omega)
    have iha := c55 wide hw ss hs hl t ht a pre (b.flat ++ (x :: post)) hga (by simp [he]) ((j : Int) - 1) (by omega)
    have hfr := c49 wide ss.length t ht b (pre ++ a.flat) (x :: post) hgb (by simp [he]) ((k : Int) - 1) (by simp; omega)
    rw [List.length_append, ← hj] at hfr
    have hob := (spanS_ok hw hs hl b hgb).1
    have hx2 : ¬ x.1 = 2 := by rcases bi_cases hm with h | h | h | h <;> omega
    have hx13 : ¬ x.1 = 13 := by rcases bi_cases hm with h | h | h | h <;> omega
    have hx19 : ¬ x.1 = 19 := by rcases bi_cases hm with h | h | h | h <;> omega
    have cn := c53 wide (by omega) x.1 (spanS wide ss a) (spanS wide ss b) (by rw [BitVec.le_def]; exact hob)
    have ca := c54 x.1 (spanS wide ss a) (spanS wide ss b)
    simp only [tsl, ssl, spV] at iha ihb hfr cn ca
    by_cases ho : ownK x.1 = 1
    · simp [e55, F55_c, tsl, h1, h6, nodeV, node, c40, hm, hx2, hx13, hx19, ho, hw1, hw2, iha, ihb, hfr, cn, ssl]
      simp [fin, F55, spanS, ho, spV]
    · simp [e55, F55_c, tsl, h1, h6, nodeV, node, c40, hm, hx2, hx13, hx19, ho, hw1, hw2, iha, ihb, hfr, ca, ssl]
      simp [fin, F55, spanS, ho, spV]

theorem c56_bad (wide : Nat) (t : List Nd) (ss : List Sp) (ht : t.length < 1000000) (hl : ss.length < 1000000) (hb : (goodT wide ss.length t && goodSS wide ss) = false) :
    acall T X 56 [.d (.int .i64 wide), .d (tsl t), .d (ssl ss)] [] = some (.tup [spV (0#64, 0#64), .d (.bool false)], []) := by
  have h1 := c45 wide ss.length t ht
  have h2 := c48 wide ss hl
  simp only [tsl, ssl] at h1 h2 ⊢
  cases q1 : goodT wide ss.length t with
  | false =>
    rw [q1] at h1
    simp [e56, F56_c, h1]
    simp [fin, F56, spV]
  | true =>
    rw [q1] at hb h1
    have q2 : goodSS wide ss = false := by simpa using hb
    rw [q2] at h2
    simp [e56, F56_c, h1, h2]
    simp [fin, F56, spV]

theorem c56_good (wide : Nat) (hw : wide ≤ 64) (ss : List Sp) (hl : ss.length < 1000) (r : Tr) (ht : r.flat.length < 1000000) (hg : r.good wide ss.length) (h1 : goodT wide ss.length r.flat = true) (h2 : goodSS wide ss = true) :
    acall T X 56 [.d (.int .i64 wide), .d (tsl r.flat), .d (ssl ss)] [] = some (.tup [spV (spanS wide ss r), .d (.bool true)], []) := by
  have g1 := c45 wide ss.length r.flat ht
  have g2 := c48 wide ss (by omega)
  rw [h1] at g1
  rw [h2] at g2
  have hs : ∀ s ∈ ss, goodS wide s = true := by
    simp only [goodSS, Bool.and_eq_true, List.all_eq_true] at h2
    exact h2.2
  have g3 := c55 wide hw ss hs hl r.flat ht r [] [] hg (by simp) ((r.flat.length : Int) - 1) (by simp)
  have hwr : wr ((r.flat.length : Int) - 1) = (r.flat.length : Int) - 1 := by
    have := r.flat_pos
    rw [wr_id] <;> omega
  simp only [tsl, ssl, spV] at g1 g2 g3 ⊢
  simp [e56, F56_c, g1, g2, g3, hwr]
  simp [fin, F56]
end Go.Proofs.Ytghhjbbildemiaa.AM

namespace Go.Proofs.Ytghhjbbildemiaa.AM
open Go

theorem asW_w (x : BitVec 64) : asW (.w x) = some x.toNat := by
  have := x.isLt
  simp only [asW, D.w]
  rw [if_pos (by omega)]
  simp

theorem X31 {a b c : D} {x y z : Nat} (st : St) (ha : asW a = some x) (hb : asW b = some y) (hc : asBit c = some z) :
    X 31 [.d a, .d b, .d c] st = some (.tup [.d (.int .u64 ((x + y + z) % 18446744073709551616 : Nat)), .d (.int .u64 ((x + y + z) / 18446744073709551616 : Nat))], st) := by
  simp only [X, if_true, ha, hb, hc]

theorem add_toNat (x y : BitVec 64) : (x + y).toNat = (x.toNat + y.toNat + 0) % 18446744073709551616 := by simp [BitVec.toNat_add]
theorem carry_toNat (x y : BitVec 64) : (BitVec.ofNat 64 ((x.toNat + y.toNat) / 18446744073709551616)).toNat = (x.toNat + y.toNat + 0) / 18446744073709551616 := by
  have hx := x.isLt
  have hy := y.isLt
  rw [BitVec.toNat_ofNat, Nat.add_zero]
  omega

theorem c31 (x y : BitVec 64) : acall T X 31 [.d (.w x), .d (.w y), .d (.w 0#64)] [] = some (.tup [.d (.w (x + y)), .d (.w (BitVec.ofNat 64 ((x.toNat + y.toNat) / 18446744073709551616)))], []) := by
  apply acall_x
  rw [X31 [] (asW_w x) (asW_w y) (show asBit (.w 0#64) = some 0 by simp [asBit, D.w]), ← add_toNat, ← carry_toNat]
  simp only [D.w]

/-- All words of a width. -/
def allS (wide : Nat) : Sp := (0#64, endW wide)

theorem sum_carry {wide : Nat} (h : wide ≤ 64) {a b : BitVec 64} (hb : b.toNat < 2 ^ wide) : (BitVec.ofNat 64 ((a.toNat + b.toNat) / 18446744073709551616) = 0#64 ∧ a + b ≤ endW wide) ↔ a ≤ endW wide - b := by
  have he := endW_toNat h
  have h64 : (2 : Nat) ^ wide ≤ 2 ^ 64 := Nat.pow_le_pow_right (by decide) h
  have ha := a.isLt
  have hp : 0 < 2 ^ wide := Nat.two_pow_pos _
  have e1 : (endW wide - b).toNat = 2 ^ wide - 1 - b.toNat := by
    rw [BitVec.toNat_sub_of_le (by rw [BitVec.le_def]; omega), he]
  rw [BitVec.le_def, BitVec.le_def, e1, he, BitVec.toNat_add]
  have e2 : BitVec.ofNat 64 ((a.toNat + b.toNat) / 18446744073709551616) = 0#64 ↔ a.toNat + b.toNat < 18446744073709551616 := by
    constructor
    · intro q
      have := congrArg BitVec.toNat q
      simp at this
      omega
    · intro q
      rw [Nat.div_eq_of_lt q]
  rw [e2]
  omega

theorem c32 (wide : Nat) (hw : wide ≤ 64) (a b : Sp) (hb : b.2.toNat < 2 ^ wide) : acall T X 32 [spV (allS wide), spV a, spV b] [] = some (spV (numS wide 3 a b), []) := by
  have hc := sum_carry hw (a := a.2) hb
  simp only [spV, allS]
  by_cases h : a.2 ≤ endW wide - b.2
  · obtain ⟨h1, h2⟩ := hc.2 h
    simp [e32, F32_c, c31, h1, h2]
    simp [fin, F32, numS, h]
  · by_cases h1 : BitVec.ofNat 64 ((a.2.toNat + b.2.toNat) / 18446744073709551616) = 0#64
    · have h2 : ¬ a.2 + b.2 ≤ endW wide := fun q => h (hc.1 ⟨h1, q⟩)
      simp [e32, F32_c, c31, h1, h2]
      simp [fin, F32, numS, h]
    · simp [e32, F32_c, c31, h1]
      simp [fin, F32, numS, h]
end Go.Proofs.Ytghhjbbildemiaa.AM

namespace Go.Proofs.Ytghhjbbildemiaa.AM
open Go

/-- The upper half of a product, by halves. -/
def hi64 (x y : BitVec 64) : BitVec 64 :=
  let x0 := x &&& 4294967295#64
  let x1 := srl x 32
  let y0 := y &&& 4294967295#64
  let y1 := srl y 32
  let t := x1 * y0 + srl (x0 * y0) 32
  x1 * y1 + srl t 32 + srl ((t &&& 4294967295#64) + x0 * y1) 32

theorem c33 (x y : BitVec 64) : acall T X 33 [.d (.w x), .d (.w y)] [] = some (.tup [.d (.w (hi64 x y)), .d (.w (x * y))], []) := by
  simp [e33, F33_c]
  simp [fin, F33, hi64]

theorem and32 (a : BitVec 64) : (a &&& 4294967295#64).toNat = a.toNat % 4294967296 := by
  rw [BitVec.toNat_and]
  exact Nat.and_two_pow_sub_one_eq_mod a.toNat 32
theorem shr32 (a : BitVec 64) : (srl a 32).toNat = a.toNat / 4294967296 := by
  rw [srl, BitVec.toNat_ushiftRight, Nat.shiftRight_eq_div_pow]

theorem hi64_toNat (x y : BitVec 64) : (hi64 x y).toNat = x.toNat * y.toNat / 18446744073709551616 := by
  have hx : x.toNat < 18446744073709551616 := x.isLt
  have hy : y.toNat < 18446744073709551616 := y.isLt
  obtain ⟨b0, b1, b2, hh⟩ := Lib.mul64_hi x.toNat y.toNat hx hy
  have e64 : (2 : Nat) ^ 64 = 18446744073709551616 := rfl
  rw [← hh]
  have ba := Lib.half_mul_le (a := x.toNat / 4294967296) (b := y.toNat / 4294967296) (by omega) (by omega)
  have bb := Lib.half_mul_le (a := x.toNat / 4294967296) (b := y.toNat % 4294967296) (by omega) (by omega)
  have bc := Lib.half_mul_le (a := x.toNat % 4294967296) (b := y.toNat / 4294967296) (by omega) (by omega)
  have t0 : ((x &&& 4294967295#64) * (y &&& 4294967295#64)).toNat = x.toNat % 4294967296 * (y.toNat % 4294967296) := by
    rw [BitVec.toNat_mul, and32, and32, e64, Nat.mod_eq_of_lt b0]
  have t1 : (srl x 32 * (y &&& 4294967295#64) + srl ((x &&& 4294967295#64) * (y &&& 4294967295#64)) 32).toNat = x.toNat / 4294967296 * (y.toNat % 4294967296) + x.toNat % 4294967296 * (y.toNat % 4294967296) / 4294967296 := by
    rw [BitVec.toNat_add, BitVec.toNat_mul, shr32, shr32, and32, t0, e64]
    rw [Nat.mod_eq_of_lt (show x.toNat / 4294967296 * (y.toNat % 4294967296) < 18446744073709551616 by omega), Nat.mod_eq_of_lt b1]
  simp only [hi64]
  generalize ht : srl x 32 * (y &&& 4294967295#64) + srl ((x &&& 4294967295#64) * (y &&& 4294967295#64)) 32 = t at t1
  have t2 : ((t &&& 4294967295#64) + (x &&& 4294967295#64) * srl y 32).toNat = (t.toNat % 4294967296) + x.toNat % 4294967296 * (y.toNat / 4294967296) := by
    rw [BitVec.toNat_add, BitVec.toNat_mul, and32, and32, shr32, e64]
    rw [Nat.mod_eq_of_lt (show x.toNat % 4294967296 * (y.toNat / 4294967296) < 18446744073709551616 by omega), Nat.mod_eq_of_lt (by rw [t1]; exact b2)]
  have hlt : x.toNat * y.toNat / 18446744073709551616 < 18446744073709551616 := by
    apply Nat.div_lt_of_lt_mul
    exact Nat.mul_lt_mul_of_lt_of_lt hx hy
  rw [BitVec.toNat_add, BitVec.toNat_add, BitVec.toNat_mul, shr32, shr32, shr32, shr32, t2, t1, e64]
  rw [Nat.mod_eq_of_lt (show x.toNat / 4294967296 * (y.toNat / 4294967296) < 18446744073709551616 by omega)]
  rw [← t1]
  omega
end Go.Proofs.Ytghhjbbildemiaa.AM

namespace Go.Proofs.Ytghhjbbildemiaa.AM
open Go

theorem fits_iff {wide : Nat} (h : wide ≤ 64) (a b : BitVec 64) : fitsW wide a b = true ↔ a.toNat * b.toNat < 2 ^ wide := by
  refine ⟨fitsW_spec h, fun q => ?_⟩
  simp only [fitsW, Bool.or_eq_true, beq_iff_eq, decide_eq_true_eq]
  by_cases hb : b = 0#64
  · exact .inl hb
  · have hb' : 0 < b.toNat := by
      rcases Nat.eq_zero_or_pos b.toNat with h0 | h0
      · exact absurd (BitVec.eq_of_toNat_eq (by simpa using h0)) hb
      · exact h0
    refine .inr ?_
    rw [BitVec.le_def, BitVec.toNat_udiv, endW_toNat h, Nat.le_div_iff_mul_le hb']
    omega

theorem prod_fits {wide : Nat} (h : wide ≤ 64) (a b : BitVec 64) : (hi64 a b = 0#64 ∧ a * b ≤ endW wide) ↔ fitsW wide a b = true := by
  have h64 : (2 : Nat) ^ wide ≤ 2 ^ 64 := Nat.pow_le_pow_right (by decide) h
  have e64 : (2 : Nat) ^ 64 = 18446744073709551616 := rfl
  have hp : 0 < 2 ^ wide := Nat.two_pow_pos _
  rw [fits_iff h, BitVec.le_def, endW_toNat h, BitVec.toNat_mul]
  have e2 : hi64 a b = 0#64 ↔ a.toNat * b.toNat < 18446744073709551616 := by
    constructor
    · intro q
      have := congrArg BitVec.toNat q
      rw [hi64_toNat] at this
      simp only [BitVec.toNat_ofNat, Nat.zero_mod] at this
      omega
    · intro q
      apply BitVec.eq_of_toNat_eq
      rw [hi64_toNat, Nat.div_eq_of_lt q]
      rfl
  rw [e2]
  constructor
  · rintro ⟨q1, q2⟩
    rw [e64, Nat.mod_eq_of_lt q1] at q2
    omega
  · intro q
    have : a.toNat * b.toNat < 18446744073709551616 := by omega
    exact ⟨this, by rw [e64, Nat.mod_eq_of_lt this]; omega⟩

theorem c34 (wide : Nat) (hw : wide ≤ 64) (a b : Sp) : acall T X 34 [spV (allS wide), spV a, spV b] [] = some (spV (numS wide 5 a b), []) := by
  have hc := prod_fits hw a.2 b.2
  simp only [spV, allS]
  cases h : fitsW wide a.2 b.2 with
  | true =>
    obtain ⟨h1, h2⟩ := hc.2 h
    simp [e34, F34_c, c33, h1, h2]
    simp [fin, F34, numS, h]
  | false =>
    by_cases h1 : hi64 a.2 b.2 = 0#64
    · have h2 : ¬ a.2 * b.2 ≤ endW wide := fun q => by
        have := hc.1 ⟨h1, q⟩
        rw [h] at this; cases this
      simp [e34, F34_c, c33, h1, h2]
      simp [fin, F34, numS, h]
    · simp [e34, F34_c, c33, h1]
      simp [fin, F34, numS, h]

def cmpS (yes no : Bool) : Sp := if yes = true then (1#64, 1#64) else if no = true then (0#64, 0#64) else (0#64, 1#64)
theorem c35 (yes no : Bool) : acall T X 35 [.d (.bool yes), .d (.bool no)] [] = some (spV (cmpS yes no), []) := by
  cases yes <;> cases no <;> (simp [e35, F35_c]; simp [fin, F35, spV, cmpS])

def maxW (a b : BitVec 64) : BitVec 64 := if a < b then b else a
def minW (a b : BitVec 64) : BitVec 64 := if b < a then b else a
/-- The meet, and whether there is one. -/
def meetS (a b : Sp) : Sp := if minW a.2 b.2 < maxW a.1 b.1 then (0#64, 0#64) else (maxW a.1 b.1, minW a.2 b.2)
def meets (a b : Sp) : Bool := !decide (minW a.2 b.2 < maxW a.1 b.1)
theorem c30 (a b : Sp) : acall T X 30 [spV a, spV b] [] = some (.tup [spV (meetS a b), .d (.bool (meets a b))], []) := by
  have e1 : (if a.1 < b.1 then b.1 else a.1) = maxW a.1 b.1 := rfl
  have e2 : (if b.2 < a.2 then b.2 else a.2) = minW a.2 b.2 := rfl
  simp only [spV]
  by_cases h : minW a.2 b.2 < maxW a.1 b.1
  · simp [e30, F30_c, e1, e2, h]
    simp [fin, F30, meetS, meets, h]
  · simp [e30, F30_c, e1, e2, h]
    simp [fin, F30, meetS, meets, h]
end Go.Proofs.Ytghhjbbildemiaa.AM

namespace Go.Proofs.Ytghhjbbildemiaa.AM
open Go

theorem minW_eq (a b : BitVec 64) : minW a b = leastW a b := by
  apply BitVec.eq_of_toNat_eq
  rw [leastW_toNat]
  unfold minW
  split
  · rename_i h; rw [BitVec.lt_def] at h; omega
  · rename_i h; rw [BitVec.lt_def] at h; omega
theorem maxW_eq (a b : BitVec 64) : maxW a b = mostW a b := by
  apply BitVec.eq_of_toNat_eq
  rw [mostW_toNat]
  unfold maxW
  split
  · rename_i h; rw [BitVec.lt_def] at h; omega
  · rename_i h; rw [BitVec.lt_def] at h; omega
theorem leastW_comm (a b : BitVec 64) : leastW a b = leastW b a := by
  apply BitVec.eq_of_toNat_eq; rw [leastW_toNat, leastW_toNat]; omega

/-- What an operator makes of two intervals. -/
def twoS (wide : Nat) (op : Int) (a b : Sp) : Sp := if ownK op = 1 then numS wide op a b else askS op a b

theorem meets_iff (a b : Sp) (ha : a.1.toNat ≤ a.2.toNat) (hb : b.1.toNat ≤ b.2.toNat) : (!meets a b) = decide (a.2 < b.1 ∨ b.2 < a.1) := by
  unfold meets
  rw [Bool.not_not, Bool.eq_iff_iff, decide_eq_true_eq, decide_eq_true_eq, minW_eq, maxW_eq, BitVec.lt_def, BitVec.lt_def, BitVec.lt_def, leastW_toNat, mostW_toNat]
  omega

set_option maxHeartbeats 4000000 in
theorem c36 (wide : Nat) (hw : wide ≤ 64) (op : Int) (hm : many op = 2) (a b : Sp) (ha : okS wide (part op) a) (hb : okS wide (part op) b) : acall T X 36 [.d (.int .i64 op), spV (allS wide), spV a, spV b] [] = some (spV (twoS wide op a b), []) := by
  have hops : op = 3 ∨ op = 4 ∨ op = 5 ∨ op = 6 ∨ op = 7 ∨ op = 8 ∨ op = 9 ∨ op = 10 ∨ op = 11 ∨ op = 12 ∨ op = 14 ∨ op = 15 ∨ op = 16 ∨ op = 17 ∨ op = 18 := by
    rcases bi_cases hm with h | h | h | h <;> omega
  have hbl : b.1 ≤ b.2 := by rw [BitVec.le_def]; exact hb.1
  have e1 : ∀ x y : BitVec 64, (if x < y then y else x) = mostW x y := fun x y => maxW_eq x y
  have e2 : ∀ x y : BitVec 64, (if y < x then y else x) = leastW x y := fun x y => minW_eq x y
  have k32 := fun h => c32 wide hw a b h
  have k34 := c34 wide hw a b
  simp only [spV, allS] at k32 k34 ⊢
  rcases hops with rfl | rfl | rfl | rfl | rfl | rfl | rfl | rfl | rfl | rfl | rfl | rfl | rfl | rfl | rfl
  · have k := k32 (hb.2.1 (by simp [part]))
    simp [e36, F36_c, k]
    simp [fin, F36, twoS, ownK]
  · by_cases hc : b.2 ≤ a.1
    · simp [e36, F36_c, hc]
      simp [fin, F36, twoS, ownK, numS, hc]
    · simp [e36, F36_c, hc, F36_t0]
      simp [fin, F36, twoS, ownK, numS, hc]
  · simp [e36, F36_c, k34]
    simp [fin, F36, twoS, ownK]
  · by_cases hc : 0#64 < b.1
    · have n1 := pos_ne hbl hc
      have n2 := pos_ne' hc
      simp [e36, F36_c, hc, n1, n2]
      simp [fin, F36, twoS, ownK, numS, hc]
    · simp [e36, F36_c, hc, F36_t0]
      simp [fin, F36, twoS, ownK, numS, hc]
  · by_cases hc : 0#64 < b.1
    · by_cases hd : b.2 - 1#64 < a.2
      · have := e2 a.2 (b.2 - 1#64)
        rw [if_pos hd] at this
        simp [e36, F36_c, hc, hd]
        simp [fin, F36, twoS, ownK, numS, hc, ← this]
      · have := e2 a.2 (b.2 - 1#64)
        rw [if_neg hd] at this
        simp [e36, F36_c, hc, hd]
        simp [fin, F36, twoS, ownK, numS, hc, ← this]
    · simp [e36, F36_c, hc]
      simp [fin, F36, twoS, ownK, numS, hc]
  · simp [e36, F36_c, e2]
    simp [fin, F36, twoS, ownK, numS]
  · simp [e36, F36_c, e1]
    simp [fin, F36, twoS, ownK, numS]
  · simp [e36, F36_c, F36_t0]
    simp [fin, F36, twoS, ownK, numS]
  · simp [e36, F36_c, F36_t0]
    simp [fin, F36, twoS, ownK, numS]
  · simp [e36, F36_c]
    simp [fin, F36, twoS, ownK, numS]
  · have kc := fun yes => c35 yes (!meets a b)
    have km := c30 a b
    simp only [spV] at kc km
    have hmi := meets_iff a b ha.1 hb.1
    cases hee : (a.1 == b.1 && a.2 == b.2) with
    | true =>
      obtain ⟨al, ah⟩ := a
      obtain ⟨bl, bh⟩ := b
      simp only [Bool.and_eq_true, beq_iff_eq] at hee
      obtain ⟨rfl, rfl⟩ := hee
      have hn : ¬ ah < al := by have := ha.1; rw [BitVec.lt_def]; simp only at this; omega
      simp only [hn, or_self, decide_false] at hmi
      by_cases hq : al = ah
      · subst hq
        simp [e36, F36_c, km, kc]
        simp [fin, F36, twoS, ownK, askS, cmpS]
      · simp [e36, F36_c, km, kc, hq]
        simp [fin, F36, twoS, ownK, askS, cmpS, hmi, hn, hq]
    | false =>
      have hne : ¬ a = b := by
        rintro rfl
        simp at hee
      have hee' : a.1 = b.1 → ¬ a.2 = b.2 := fun q1 q2 => by rw [q1, q2] at hee; simp at hee
      obtain ⟨al, ah⟩ := a
      obtain ⟨bl, bh⟩ := b
      simp only at hee' hmi km kc hne
      by_cases hl : al = bl
      · have hh := hee' hl
        subst hl
        simp [e36, F36_c, km, kc, hh]
        simp [fin, F36, twoS, ownK, askS, cmpS, hmi, hh]
      · simp [e36, F36_c, km, kc, hl]
        simp [fin, F36, twoS, ownK, askS, cmpS, hmi, hl]
  · have kc := c35 (decide (a.2 < b.1)) (decide (b.2 ≤ a.1))
    simp only [spV] at kc
    simp [e36, F36_c, kc]
    simp [fin, F36, twoS, ownK, askS, cmpS]
  · simp [e36, F36_c]
    simp [fin, F36, twoS, ownK, askS]
  · simp [e36, F36_c, e2]
    simp [fin, F36, twoS, ownK, askS]
  · simp [e36, F36_c, e1]
    simp [fin, F36, twoS, ownK, askS]
end Go.Proofs.Ytghhjbbildemiaa.AM

namespace Go.Proofs.Ytghhjbbildemiaa.AM
open Go

/-- The loop over a term's nodes with a pile of intervals. -/
noncomputable def G37 (wide : Nat) (ss : List Sp) (t : List Nd) (S : List Sp) (i : Int) : Option (AV × St) :=
  go T X F37 0 [.code F37_b0, .inLoop [(2, .keep), (6, .keep), (7, .keep), (8, .ow 2), (16, .keep), (17, .keep), (18, .keep)] F37_l0, .inBlock 0, .code (.kp [(6, .keep), (8, .keep)] F37_t2)]
    [(2, .d (ssl ss)), (6, .ptr 0 0 0 0), (7, .ptr 1 0 0 0), (8, .hs 2 2 0 S.length), (16, .d (tsl t)), (17, .d (.int .i64 t.length)), (18, .d (.int .i64 i))]
    [.box [.d (.w 0#64), .d (.w 0#64)], .box [.d (.w 0#64), .d (.w (endW wide))], .arr 2 (S.map spanC) true]

section
variable (wide : Nat) (ss : List Sp) (t : List Nd) (ht : t.length < 1000000) (S : List Sp) (hS : S.length < 1000000) (i : Nat) (hi : i < t.length) (x : Nd) (hx : t[i] = x)
include ht hS hi hx

theorem G37_num (h : x.1 = 1 ∨ x.1 = 20) (R : Option (AV × St)) (hR : G37 wide ss t (S ++ [(x.2, x.2)]) ((i : Int) + 1) = R) : G37 wide ss t S i = R := by
  have hw1 : wr ((S.length : Int) - 1) = (S.length : Int) - 1 := by rw [wr_id] <;> omega
  have hw2 : wr ((i : Int) + 1) = (i : Int) + 1 := by rw [wr_id] <;> omega
  have hm : S.length + 1 ≤ maxApp := by simp only [maxApp]; omega
  unfold G37 at hR ⊢
  simp [tsl, spanC] at hR
  rcases h with h | h
  · simp [F37_b0, tsl, hi, hx, nodeV, node, h, hw1, F37_t0, hm, F37_t1, hw2]
    rw [go_inLoop]
    simp
    exact hR
  · simp [F37_b0, tsl, hi, hx, nodeV, node, h, hw1, F37_t0, hm, F37_t1, hw2]
    rw [go_inLoop]
    simp
    exact hR

theorem G37_var (h : x.1 = 2) (hv : x.2.toNat < ss.length) (R : Option (AV × St)) (hR : G37 wide ss t (S ++ [ss[x.2.toNat]]) ((i : Int) + 1) = R) : G37 wide ss t S i = R := by
  have hw1 : wr ((S.length : Int) - 1) = (S.length : Int) - 1 := by rw [wr_id] <;> omega
  have hw2 : wr ((i : Int) + 1) = (i : Int) + 1 := by rw [wr_id] <;> omega
  have hm : S.length + 1 ≤ maxApp := by simp only [maxApp]; omega
  unfold G37 at hR ⊢
  simp [tsl, ssl, spanC] at hR
  simp [F37_b0, tsl, hi, hx, nodeV, node, h, hw1, F37_t0, hm, F37_t1, hw2, ssl, hv, spanC]
  rw [go_inLoop]
  simp
  exact hR

theorem G37_flip (h : x.1 = 13) (s : Sp) (R : Option (AV × St)) (hR : G37 wide ss t (S ++ [(endW wide - s.2, endW wide - s.1)]) ((i : Int) + 1) = R) : G37 wide ss t (S ++ [s]) i = R := by
  have hw1 : wr (S.length : Int) = (S.length : Int) := by rw [wr_id] <;> omega
  have hw2 : wr ((i : Int) + 1) = (i : Int) + 1 := by rw [wr_id] <;> omega
  have hlt : (S.length : Int) < (S.length : Int) + 1 := by omega
  unfold G37 at hR ⊢
  simp [tsl, spanC] at hR
  simp [F37_b0, tsl, hi, hx, nodeV, node, h, hw1, F37_t0, hlt, F37_t1, hw2, spanC]
  rw [go_inLoop]
  simp
  exact hR

theorem G37_no (h : x.1 = 19) (s : Sp) (R : Option (AV × St)) (hR : G37 wide ss t (S ++ [(1#64 - s.2, 1#64 - s.1)]) ((i : Int) + 1) = R) : G37 wide ss t (S ++ [s]) i = R := by
  have hw1 : wr (S.length : Int) = (S.length : Int) := by rw [wr_id] <;> omega
  have hw2 : wr ((i : Int) + 1) = (i : Int) + 1 := by rw [wr_id] <;> omega
  have hlt : (S.length : Int) < (S.length : Int) + 1 := by omega
  unfold G37 at hR ⊢
  simp [tsl, spanC] at hR
  simp [F37_b0, tsl, hi, hx, nodeV, node, h, hw1, F37_t0, hlt, F37_t1, hw2, spanC]
  rw [go_inLoop]
  simp
  exact hR

theorem G37_two (hw : wide ≤ 64) (h : many x.1 = 2) (a b : Sp) (ha : okS wide (part x.1) a) (hb : okS wide (part x.1) b) (R : Option (AV × St)) (hR : G37 wide ss t (S ++ [twoS wide x.1 a b]) ((i : Int) + 1) = R) : G37 wide ss t (S ++ [a, b]) i = R := by
  have hw1 : wr ((S.length : Int) + 1) = (S.length : Int) + 1 := by rw [wr_id] <;> omega
  have hw0 : wr (S.length : Int) = (S.length : Int) := by rw [wr_id] <;> omega
  have hw3 : wr ((S.length : Int) + 2 - 1) = (S.length : Int) + 1 := by rw [wr_id] <;> omega
  have hw2 : wr ((i : Int) + 1) = (i : Int) + 1 := by rw [wr_id] <;> omega
  have hlt : (S.length : Int) < (S.length : Int) + 2 := by omega
  have hle : (S.length : Int) ≤ (S.length : Int) + 2 := by omega
  have hlt1 : (S.length : Int) + 1 < (S.length : Int) + 2 := by omega
  have h0 : (0 : Int) ≤ (S.length : Int) + 1 := by omega
  have hn : ((S.length : Int) + 1).toNat = S.length + 1 := by omega
  have hm : S.length + 1 ≤ maxApp := by simp only [maxApp]; omega
  have k := c36 wide hw x.1 h a b ha hb
  have n1 : ¬ x.1 = 1 := by rcases bi_cases h with q | q | q | q <;> omega
  have n2 : ¬ x.1 = 2 := by rcases bi_cases h with q | q | q | q <;> omega
  have n13 : ¬ x.1 = 13 := by rcases bi_cases h with q | q | q | q <;> omega
  have n19 : ¬ x.1 = 19 := by rcases bi_cases h with q | q | q | q <;> omega
  have n20 : ¬ x.1 = 20 := by rcases bi_cases h with q | q | q | q <;> omega
  simp only [spV, allS] at k
  unfold G37 at hR ⊢
  simp [tsl, spanC] at hR
  simp [F37_b0, tsl, hi, hx, nodeV, node, n1, n2, n13, n19, n20, hw0, hw1, hw3, F37_t0, hlt, hlt1, hle, h0, hn, F37_t1, hw2, spanC, k, hm]
  rw [go_inLoop]
  simp
  exact hR
end
end Go.Proofs.Ytghhjbbildemiaa.AM

namespace Go.Proofs.Ytghhjbbildemiaa.AM
open Go

theorem notW_eq {wide : Nat} (h : wide ≤ 64) {x : BitVec 64} (hx : x.toNat < 2 ^ wide) : endW wide - x = notW wide x := by
  apply BitVec.eq_of_toNat_eq
  rw [notW_toNat h hx, BitVec.toNat_sub_of_le (by rw [BitVec.le_def, endW_toNat h]; omega), endW_toNat h]

theorem G37_tree (wide : Nat) (hw : wide ≤ 64) (ss : List Sp) (hs : ∀ s ∈ ss, goodS wide s = true) (hl : ss.length < 1000) (t : List Nd) (ht : t.length < 1000) : ∀ (r : Tr) (pre post : List Nd) (S : List Sp), r.good wide ss.length → t = pre ++ (r.flat ++ post) → S.length ≤ pre.length →
    ∀ R, G37 wide ss t (S ++ [spanS wide ss r]) ((pre.length + r.flat.length : Nat) : Int) = R → G37 wide ss t S (pre.length : Int) = R
  | .lf x, pre, post, S, hg, he, hS, R, hR => by
    obtain ⟨hm, h2, h3⟩ := hg
    simp only [Tr.flat] at he hR
    have h1 : pre.length < t.length := by simp [he]
    have h4 : t[pre.length] = x := by simp [he]
    have hc : ((pre.length + [x].length : Nat) : Int) = (pre.length : Int) + 1 := by simp
    rw [hc] at hR
    rcases leaf_cases hm h2 with h | h | h
    · refine G37_num wide ss t (by omega) S (by omega) pre.length h1 x h4 (.inl h) R ?_
      simpa [spanS, h] using hR
    · have hv : x.2.toNat < ss.length := by
        simp [leafOk, h] at h3
        rw [BitVec.lt_def, ofI_toNat hl] at h3
        exact h3
      refine G37_var wide ss t (by omega) S (by omega) pre.length h1 x h4 h hv R ?_
      simpa [spanS, h, hv] using hR
    · refine G37_num wide ss t (by omega) S (by omega) pre.length h1 x h4 (.inr h) R ?_
      simpa [spanS, h] using hR
  | .un x a, pre, post, S, hg, he, hS, R, hR => by
    obtain ⟨hm, h2, h3, h4, hga⟩ := hg
    simp only [Tr.flat] at he hR
    have hok := spanS_ok hw hs hl a hga
    rw [h4] at hok
    refine G37_tree wide hw ss hs hl t ht a pre (x :: post) S hga (by simp [he]) hS R ?_
    have hi : pre.length + a.flat.length < t.length := by simp [he]
    have hx : t[pre.length + a.flat.length] = x := by simp [he]
    have hc : ((pre.length + (a.flat ++ [x]).length : Nat) : Int) = ((pre.length + a.flat.length : Nat) : Int) + 1 := by simp; omega
    rw [hc] at hR
    rcases un_cases hm with h | h
    · refine G37_flip wide ss t (by omega) S (by omega) _ hi x hx h _ R ?_
      obtain ⟨i1, i2, _⟩ := hok
      have i2 := i2 (by simp [part, h])
      rw [notW_eq hw i2, notW_eq hw (Nat.lt_of_le_of_lt i1 i2)]
      simpa [spanS, h] using hR
    · refine G37_no wide ss t (by omega) S (by omega) _ hi x hx h _ R ?_
      simpa [spanS, h] using hR
  | .bi x a b, pre, post, S, hg, he, hS, R, hR => by
    obtain ⟨hm, h2, h3, h4, h5, hga, hgb⟩ := hg
    simp only [Tr.flat] at he hR
    have hoa := spanS_ok hw hs hl a hga
    have hob := spanS_ok hw hs hl b hgb
    rw [h4] at hoa
    rw [h5] at hob
    refine G37_tree wide hw ss hs hl t ht a pre (b.flat ++ (x :: post)) S hga (by simp [he]) hS R ?_
    have e1 : ((pre.length + a.flat.length : Nat) : Int) = ((pre ++ a.flat).length : Nat) := by simp
    rw [e1]
    have hp := a.flat_pos
    refine G37_tree wide hw ss hs hl t ht b (pre ++ a.flat) (x :: post) (S ++ [spanS wide ss a]) hgb (by simp [he]) (by simp; omega) R ?_
    have hi : (pre ++ a.flat).length + b.flat.length < t.length := by simp [he]; omega
    have hx : t[(pre ++ a.flat).length + b.flat.length] = x := by simp [he, Nat.add_assoc]
    have hc : ((pre.length + (a.flat ++ (b.flat ++ [x])).length : Nat) : Int) = (((pre ++ a.flat).length + b.flat.length : Nat) : Int) + 1 := by simp; omega
    rw [hc] at hR
    rw [List.append_assoc]
    refine G37_two wide ss t (by omega) S (by omega) _ hi x hx hw hm _ _ hoa hob R ?_
    exact hR
end Go.Proofs.Ytghhjbbildemiaa.AM

namespace Go.Proofs.Ytghhjbbildemiaa.AM
open Go

theorem mask_end {wide : Nat} (h1 : 1 ≤ wide) (h : wide ≤ 64) : maskW (wide : Int) = endW wide := by
  apply BitVec.eq_of_toNat_eq
  rw [maskW_toNat (by omega) (by omega), endW_toNat h]
  simp

theorem c37 (wide : Nat) (h1 : 1 ≤ wide) (hw : wide ≤ 64) (ss : List Sp) (hs : ∀ s ∈ ss, goodS wide s = true) (hl : ss.length < 1000) (r : Tr) (ht : r.flat.length < 1000) (hg : r.good wide ss.length) :
    acall T X 37 [.d (.int .i64 wide), .d (tsl r.flat), .d (ssl ss)] [] = some (spV (spanS wide ss r), []) := by
  have hend : G37 wide ss r.flat [spanS wide ss r] (r.flat.length : Int) = some (spV (spanS wide ss r), []) := by
    unfold G37
    simp [F37_b0, F37_t2, spanC]
    simp [fin, F37, spV]
  have hm := G37_tree wide hw ss hs hl r.flat ht r [] [] [] hg (by simp) (by simp) _ (by simpa using hend)
  unfold G37 at hm
  simp [tsl, ssl] at hm
  simp [e37, F37_c, c19 wide (by omega) (by omega), mask_end h1 hw, tsl, ssl]
  rw [go_inLoop]
  simp
  exact hm

theorem c38_bad (wide : Nat) (t : List Nd) (ss : List Sp) (ht : t.length < 1000000) (hl : ss.length < 1000000) (hb : (goodT wide ss.length t && goodSS wide ss) = false) :
    acall T X 38 [.d (.int .i64 wide), .d (tsl t), .d (ssl ss)] [] = some (.tup [spV (0#64, 0#64), .d (.bool false)], []) := by
  have h1 := c29 wide ss.length t ht
  have h2 := c23 wide ss hl
  simp only [tsl, ssl] at h1 h2 ⊢
  cases q2 : goodSS wide ss with
  | false =>
    rw [q2] at h2
    simp [e38, F38_c, h2]
    simp [fin, F38, spV]
  | true =>
    rw [q2] at hb h2
    have q1 : goodT wide ss.length t = false := by simpa using hb
    rw [q1] at h1
    simp [e38, F38_c, h1, h2]
    simp [fin, F38, spV]

theorem c38_good (wide : Nat) (h0 : 1 ≤ wide) (hw : wide ≤ 64) (ss : List Sp) (hl : ss.length < 1000) (r : Tr) (ht : r.flat.length < 1000) (hg : r.good wide ss.length) (h1 : goodT wide ss.length r.flat = true) (h2 : goodSS wide ss = true) :
    acall T X 38 [.d (.int .i64 wide), .d (tsl r.flat), .d (ssl ss)] [] = some (.tup [spV (spanS wide ss r), .d (.bool true)], []) := by
  have g1 := c29 wide ss.length r.flat (by omega)
  have g2 := c23 wide ss (by omega)
  rw [h1] at g1
  rw [h2] at g2
  have hs : ∀ s ∈ ss, goodS wide s = true := by
    simp only [goodSS, Bool.and_eq_true, List.all_eq_true] at h2
    exact h2.2
  have g3 := c37 wide h0 hw ss hs hl r ht hg
  simp only [tsl, ssl, spV] at g1 g2 g3 ⊢
  simp [e38, F38_c, g1, g2, g3]
  simp [fin, F38]
end Go.Proofs.Ytghhjbbildemiaa.AM

namespace Go.Proofs.Ytghhjbbildemiaa.AM
open Go

theorem c64 (wide : Int) (a b : BitVec 64) : acall T X 64 [.d (.int .i64 wide), .d (.w a), .d (.w b)] [] = some (.d (.bool (gw wide a && gw wide b)), []) := by
  cases h : gw wide a with
  | true =>
    simp [e64, F64_c, c20, h]
    simp [fin, F64]
  | false =>
    simp [e64, F64_c, c20, h]
    simp [fin, F64]

/-- An interval has a word. -/
def hasS (s : Sp) (a : BitVec 64) : Bool := decide (s.1 ≤ a) && decide (a ≤ s.2)
theorem c62 (s : Sp) (a : BitVec 64) : acall T X 62 [.agg [.d (.w s.1), .d (.w s.2)], .d (.w a)] [] = some (.d (.bool (hasS s a)), []) := by
  by_cases h : s.1 ≤ a
  · simp [e62, F62_c, h]
    simp [fin, F62, hasS, h]
  · simp [e62, F62_c, h]
    simp [fin, F62, hasS, h]

def truthW (b : Bool) : BitVec 64 := if b = true then 1#64 else 0#64
theorem c70 (b : Bool) : acall T X 70 [.d (.bool b)] [] = some (.d (.w (truthW b)), []) := by
  cases b <;> (simp [e70, F70_c]; simp [fin, F70, truthW])

theorem c60 (wide : Int) (a : BitVec 64) : acall T X 60 [.d (.w a), .eptr [.int .i64 wide] 0] [] = some (.d (.bool (!gw wide a)), []) := by
  simp [e60, F60_c, c20]
  simp [fin, F60]

theorem i_shr (a : Int) (k : IntKind) (n : Int) : abin .shr (.int .i64 a) (.int k n) = if n < 0 then none else some (.int .i64 (a.fdiv (2 ^ (min n.toNat 64)))) := by
  simp only [abin, ashift, Bool.false_eq_true, if_false]
  rfl

def signedW (wide : Int) (a : BitVec 64) : Int := (toI (sll a (64 - wide).toNat)).fdiv (2 ^ (min (64 - wide).toNat 64))
theorem c71 (wide : Int) (h1 : 1 ≤ wide) (h2 : wide ≤ 64) (a : BitVec 64) : acall T X 71 [.d (.int .i64 wide), .d (.w a)] [] = some (.d (.int .i64 (signedW wide a)), []) := by
  have hw : wr (64 - wide) = 64 - wide := by rw [wr_id] <;> omega
  have h0 : ¬ 64 - wide < 0 := by omega
  simp [e71, F71_c, hw, h0, i_shr]
  simp [fin, F71, signedW]

def shiftW (wide : Nat) (a b : BitVec 64) (left : Bool) : BitVec 64 := if ofI (wide : Int) ≤ b then 0#64 else if left = true then sll a b.toNat &&& endW wide else srl a b.toNat
theorem c69 (wide : Nat) (h1 : 1 ≤ wide) (h2 : wide ≤ 64) (a b : BitVec 64) (left : Bool) : acall T X 69 [.d (.int .i64 wide), .d (.w a), .d (.w b), .d (.bool left)] [] = some (.d (.w (shiftW wide a b left)), []) := by
  by_cases h : ofI (wide : Int) ≤ b
  · simp [e69, F69_c, h]
    simp [fin, F69, shiftW, h]
  · cases left
    · simp [e69, F69_c, h]
      simp [fin, F69, shiftW, h]
    · simp [e69, F69_c, h, c19 wide (by omega) (by omega), mask_end h1 h2]
      simp [fin, F69, shiftW, h]
end Go.Proofs.Ytghhjbbildemiaa.AM

namespace Go.Proofs.Ytghhjbbildemiaa.AM
open Go

theorem c67 (a b : BitVec 64) (hb : ¬ b = 0#64) : acall T X 67 [.d (.w 0#64), .d (.w a), .d (.w b)] [] = some (.tup [.d (.w (a / b)), .d (.w (a % b))], []) := by
  have hp : 0#64 < b := by
    rw [BitVec.lt_def]
    rcases Nat.eq_zero_or_pos b.toNat with h | h
    · exact absurd (BitVec.eq_of_toNat_eq (by simpa using h)) hb
    · simpa using h
  have h1 : ¬ b ≤ 0#64 := by rw [BitVec.le_def]; rw [BitVec.lt_def] at hp; simp at hp ⊢; omega
  simp [e67, F67_c, hb, h1, hp]
  simp [F67_t3, F67_t2, hb, h1, hp]
  simp [fin, F67, hb]

def divW (wide : Nat) (a b : BitVec 64) : BitVec 64 := if b = 0#64 then endW wide else a / b
def remW (a b : BitVec 64) : BitVec 64 := if b = 0#64 then a else a % b
theorem c68 (wide : Nat) (h1 : 1 ≤ wide) (h2 : wide ≤ 64) (a b : BitVec 64) (ha : gw wide a = true) (hb : gw wide b = true) : acall T X 68 [.d (.int .i64 wide), .d (.w a), .d (.w b)] [] = some (.tup [.d (.w (divW wide a b)), .d (.w (remW a b)), .d (.bool true)], []) := by
  have k := c64 wide a b
  rw [ha, hb] at k
  by_cases h : b = 0#64
  · subst h
    simp [e68, F68_c, k, c19 wide (by omega) (by omega), mask_end h1 h2]
    simp [fin, F68, divW, remW]
  · simp [e68, F68_c, k, h, c67 a b h]
    simp [fin, F68, divW, remW, h]
end Go.Proofs.Ytghhjbbildemiaa.AM

namespace Go.Proofs.Ytghhjbbildemiaa.AM
open Go

def applyR (wide : Nat) (op : Int) (a b : BitVec 64) : BitVec 64 :=
  if op = 3 then a + b else if op = 4 then a - b else if op = 5 then a * b else if op = 6 then divW wide a b else if op = 7 then remW a b
  else if op = 8 ∨ op = 17 then a &&& b else if op = 9 ∨ op = 18 then a ||| b else if op = 10 then a ^^^ b
  else if op = 11 then shiftW wide a b true else if op = 12 then shiftW wide a b false
  else if op = 14 then truthW (a == b) else if op = 15 then truthW (decide (a < b)) else if op = 16 then truthW (decide (signedW wide a < signedW wide b)) else 0#64
def applyW (wide : Nat) (op : Int) (a b : BitVec 64) : BitVec 64 := applyR wide op a b &&& endW wide

set_option maxHeartbeats 4000000 in
theorem c72 (wide : Nat) (h1 : 1 ≤ wide) (h2 : wide ≤ 64) (op : Int) (hm : many op = 2) (a b : BitVec 64) (ha : gw wide a = true) (hb : gw wide b = true) :
    acall T X 72 [.d (.int .i64 wide), .d (.int .i64 op), .d (.w a), .d (.w b)] [] = some (.d (.w (applyW wide op a b)), []) := by
  have hops : op = 3 ∨ op = 4 ∨ op = 5 ∨ op = 6 ∨ op = 7 ∨ op = 8 ∨ op = 9 ∨ op = 10 ∨ op = 11 ∨ op = 12 ∨ op = 14 ∨ op = 15 ∨ op = 16 ∨ op = 17 ∨ op = 18 := by
    rcases bi_cases hm with h | h | h | h <;> omega
  have k68 := c68 wide h1 h2 a b ha hb
  have k19 := c19 wide (by omega) (by omega)
  rw [mask_end h1 h2] at k19
  have k69 := c69 wide h1 h2 a b
  have k71 := c71 wide (by omega) (by omega)
  have tail : ∀ o : BitVec 64, go T X F72 0 [.code F72_t3] [(0, .d (.int .i64 wide)), (9, .d (.w o))] [] = some (.d (.w (o &&& endW wide)), []) := by
    intro o
    simp [F72_t3, k19]
    simp [fin, F72]
  rcases hops with rfl | rfl | rfl | rfl | rfl | rfl | rfl | rfl | rfl | rfl | rfl | rfl | rfl | rfl | rfl
  all_goals
    simp [e72, F72_c, F72_t0, F72_t1, F72_t2, k68, k69, k71, c70, tail, applyW, applyR]
end Go.Proofs.Ytghhjbbildemiaa.AM

namespace Go.Proofs.Ytghhjbbildemiaa.AM
open Go

def joinS (a b : Sp) : Sp := (leastW a.1 b.1, mostW a.2 b.2)
theorem c77 (a b : Sp) : acall T X 77 [spV a, spV b] [] = some (spV (joinS a b), []) := by
  have e1 : ∀ x y : BitVec 64, (if x < y then y else x) = mostW x y := fun x y => maxW_eq x y
  have e2 : ∀ x y : BitVec 64, (if y < x then y else x) = leastW x y := fun x y => minW_eq x y
  simp only [spV]
  simp [e77, F77_c, e1, e2]
  simp [fin, F77, joinS]
theorem c79 (a b : Sp) : acall T X 79 [spV a, spV b] [] = some (spV (joinS a b), []) := by
  simp only [spV]
  simp [e79, F79_c, c50, c51]
  simp [fin, F79, joinS]

def joinR (wide : Int) (a b : Sp) : Sp × Bool := if (goodS wide a && goodS wide b) = true then (joinS a b, true) else ((0#64, 0#64), false)
theorem c78 (wide : Int) (a b : Sp) : acall T X 78 [.d (.int .i64 wide), spV a, spV b] [] = some (.tup [spV (joinR wide a b).1, .d (.bool (joinR wide a b).2)], []) := by
  have ka := c21 wide a
  have kb := c21 wide b
  have kj := c77 a b
  simp only [spV] at kj ⊢
  cases ha : goodS wide a with
  | false =>
    rw [ha] at ka
    simp [e78, F78_c, ka]
    simp [fin, F78, joinR, ha]
  | true =>
    rw [ha] at ka
    cases hb : goodS wide b with
    | false =>
      rw [hb] at kb
      simp [e78, F78_c, ka, kb]
      simp [fin, F78, joinR, ha, hb]
    | true =>
      rw [hb] at kb
      simp [e78, F78_c, ka, kb, kj]
      simp [fin, F78, joinR, ha, hb]
theorem c80 (wide : Int) (a b : Sp) : acall T X 80 [.d (.int .i64 wide), spV a, spV b] [] = some (.tup [spV (joinR wide a b).1, .d (.bool (joinR wide a b).2)], []) := by
  have ka := c47 wide a
  have kb := c47 wide b
  have kj := c79 a b
  simp only [spV] at kj ⊢
  cases ha : goodS wide a with
  | false =>
    rw [ha] at ka
    simp [e80, F80_c, ka]
    simp [fin, F80, joinR, ha]
  | true =>
    rw [ha] at ka
    cases hb : goodS wide b with
    | false =>
      rw [hb] at kb
      simp [e80, F80_c, ka, kb]
      simp [fin, F80, joinR, ha, hb]
    | true =>
      rw [hb] at kb
      simp [e80, F80_c, ka, kb, kj]
      simp [fin, F80, joinR, ha, hb]

def meetR (wide : Int) (a b : Sp) : Sp × Bool := if (goodS wide a && goodS wide b) = true then (meetS a b, meets a b) else ((0#64, 0#64), false)
theorem c81 (wide : Int) (a b : Sp) : acall T X 81 [.d (.int .i64 wide), spV a, spV b] [] = some (.tup [spV (meetR wide a b).1, .d (.bool (meetR wide a b).2)], []) := by
  have ka := c21 wide a
  have kb := c21 wide b
  have kj := c30 a b
  simp only [spV] at kj ⊢
  cases ha : goodS wide a with
  | false =>
    rw [ha] at ka
    simp [e81, F81_c, ka]
    simp [fin, F81, meetR, ha]
  | true =>
    rw [ha] at ka
    cases hb : goodS wide b with
    | false =>
      rw [hb] at kb
      simp [e81, F81_c, ka, kb]
      simp [fin, F81, meetR, ha, hb]
    | true =>
      rw [hb] at kb
      simp [e81, F81_c, ka, kb, kj]
      simp [fin, F81, meetR, ha, hb]

theorem c82 (wide : Int) (a b : Sp) : acall T X 82 [.d (.int .i64 wide), spV a, spV b] [] = some (.tup [spV (meetR wide a b).1, .d (.bool (meetR wide a b).2)], []) := by
  have ka := c47 wide a
  have kb := c47 wide b
  simp only [spV]
  cases ha : goodS wide a with
  | false =>
    rw [ha] at ka
    simp [e82, F82_c, ka]
    simp [fin, F82, meetR, ha]
  | true =>
    rw [ha] at ka
    cases hb : goodS wide b with
    | false =>
      rw [hb] at kb
      simp [e82, F82_c, ka, kb]
      simp [fin, F82, meetR, ha, hb]
    | true =>
      rw [hb] at kb
      have hmt : meets a b = !decide (leastW a.2 b.2 < mostW a.1 b.1) := by unfold meets; rw [minW_eq, maxW_eq]
      have hms : meetS a b = if leastW a.2 b.2 < mostW a.1 b.1 then (0#64, 0#64) else (mostW a.1 b.1, leastW a.2 b.2) := by unfold meetS; rw [minW_eq, maxW_eq]
      by_cases hq : leastW a.2 b.2 < mostW a.1 b.1
      · simp [e82, F82_c, ka, kb, c50, c51, hq]
        simp [fin, F82, meetR, ha, hb, hmt, hms, hq]
      · simp [e82, F82_c, ka, kb, c50, c51, hq]
        simp [fin, F82, meetR, ha, hb, hmt, hms, hq]
end Go.Proofs.Ytghhjbbildemiaa.AM

namespace Go.Proofs.Ytghhjbbildemiaa.AM
open Go

/-- Words as a slice. -/
def wordsD (ws : List (BitVec 64)) : D := .sl (ws.map fun w => [.w w])

theorem index58 (g : Nat) (caps : List AV) (hk : CapOk caps) (p : BitVec 64 → Bool) (hp : ∀ x, acall T X g (.d (.w x) :: caps) [] = some (.d (.bool (p x)), [])) (xs : List (BitVec 64)) (hl : xs.length < 1000000) :
    Ev (acall T X 58 [.d (wordsD xs), .fn g caps] []) fun r => ∃ n : Int, r = (.d (.int .i64 n), []) ∧ (0 ≤ n ↔ xs.any p = true) := by
  obtain ⟨hc, hc2, hc3⟩ := hk
  have loop : ∀ (suf pre : List (BitVec 64)) (z : Int), xs = pre ++ suf → z = pre.length →
      Ev (go T X F58 0 [.code F58_b0, .inLoop [(0, .keep), (1, .keep), (7, .keep), (8, .keep)] F58_l0, .inBlock 0, .code (.kp [] F58_t0)] [(0, .d (wordsD xs)), (1, .fn g caps), (7, .d (.int .i64 xs.length)), (8, .d (.int .i64 z))] []) fun r => ∃ n : Int, r = (.d (.int .i64 n), []) ∧ (0 ≤ n ↔ suf.any p = true) := by
    intro suf
    induction suf with
    | nil =>
      intro pre z hx hz
      subst hz
      have : xs.length = pre.length := by simp [hx]
      simp [F58_b0, this, F58_t0]
      simp [fin, F58]
    | cons x suf ih =>
      intro pre z hx hz
      subst hz
      have h1 : pre.length < xs.length := by simp [hx]
      have h2 : xs[pre.length] = x := by simp [hx]
      cases hpx : p x with
      | true =>
        simp [F58_b0, h1, wordsD, h2, hc, hp, hpx]
        simp [fin, F58]
      | false =>
        have := ih (pre ++ [x]) (wr ((pre.length : Int) + 1)) (by simp [hx]) (by rw [wr_id (by omega) (by omega)]; simp)
        simp [wordsD] at this
        simp [F58_b0, h1, wordsD, h2, hc, hp, hpx]
        rw [go_inLoop]
        simp [hc2, hc3]
        exact this
  have := loop xs [] 0 rfl rfl
  simp [e58, F58_c, wordsD] at this ⊢
  rw [go_inLoop]
  simp [hc2, hc3]
  exact this

theorem contains59 (g : Nat) (caps : List AV) (hk : CapOk caps) (p : BitVec 64 → Bool) (hp : ∀ x, acall T X g (.d (.w x) :: caps) [] = some (.d (.bool (p x)), [])) (xs : List (BitVec 64)) (hl : xs.length < 1000000) :
    acall T X 59 [.d (wordsD xs), .fn g caps] [] = some (.d (.bool (xs.any p)), []) := by
  obtain ⟨r, h, n, rfl, hn⟩ := index58 g caps hk p hp xs hl
  obtain ⟨hc, hc2, hc3⟩ := hk
  have hb : decide (0 ≤ n) = xs.any p := by
    rw [Bool.eq_iff_iff]; simpa using hn
  simp only [wordsD] at h ⊢
  simp [e59, F59_c, hc, h, hb]
  simp [fin, F59, hb]

/-- A state of n words. -/
def stateOk (wide n : Int) (ws : List (BitVec 64)) : Bool := (decide (1 ≤ wide) && decide (wide ≤ 64)) && (decide (1 ≤ n) && decide (n ≤ 4)) && decide ((ws.length : Int) = n) && ws.all (gw wide)
theorem c61 (wide n : Int) (ws : List (BitVec 64)) (hl : ws.length < 1000000) : acall T X 61 [.d (.int .i64 wide), .d (.int .i64 n), .d (wordsD ws)] [] = some (.d (.bool (stateOk wide n ws)), []) := by
  have kc := contains59 60 [.eptr [.int .i64 wide] 0] (capOk_one _) (fun a => !gw wide a) (fun a => c60 wide a) ws hl
  have hna := not_any_all (gw wide) ws
  simp only [wordsD] at kc ⊢
  by_cases h1 : 1 ≤ wide
  case neg => simp [e61, F61_c, c18, h1]; simp [fin, F61, stateOk, h1]
  by_cases h2 : wide ≤ 64
  case neg => simp [e61, F61_c, c18, h1, h2]; simp [fin, F61, stateOk, h1, h2]
  by_cases h3 : 1 ≤ n
  case neg => simp [e61, F61_c, c18, c15, h1, h2, h3]; simp [fin, F61, stateOk, h1, h2, h3]
  by_cases h4 : n ≤ 4
  case neg => simp [e61, F61_c, c18, c15, h1, h2, h3, h4]; simp [fin, F61, stateOk, h1, h2, h3, h4]
  by_cases h5 : (ws.length : Int) = n
  case neg => simp [e61, F61_c, c18, c15, h1, h2, h3, h4, h5]; simp [fin, F61, stateOk, h1, h2, h3, h4, h5]
  simp [e61, F61_c, c18, c15, h1, h2, h3, h4, h5, kc]
  rw [hna]
  simp [fin, F61, stateOk, h1, h2, h3, h4, h5]
end Go.Proofs.Ytghhjbbildemiaa.AM

namespace Go.Proofs.Ytghhjbbildemiaa.AM
open Go

/-- Each word in its interval. -/
def within : List Sp → List (BitVec 64) → Bool
  | s :: ss, w :: ws => hasS s w && within ss ws
  | _, _ => true

theorem c63_loop (ss : List Sp) (ws : List (BitVec 64)) (hlen : ws.length = ss.length) (hl : ss.length < 1000000) : ∀ (suf pre : List Sp) (suw prw : List (BitVec 64)) (z : Int), ss = pre ++ suf → ws = prw ++ suw → prw.length = pre.length → z = pre.length →
    go T X F63 0 [.code F63_b0, .inLoop [(2, .keep), (22, .keep), (23, .keep), (24, .keep)] F63_l0, .inBlock 0, .code (.kp [] F63_t0)] [(2, .d (wordsD ws)), (22, .d (ssl ss)), (23, .d (.int .i64 ss.length)), (24, .d (.int .i64 z))] [] =
      some (.tup [.d (.bool (within suf suw)), .d (.bool true)], []) := by
  intro suf
  induction suf with
  | nil =>
    intro pre suw prw z hs hw hp hz
    subst hz
    have : ss.length = pre.length := by simp [hs]
    simp [F63_b0, this, F63_t0]
    simp [fin, F63, within]
  | cons s suf ih =>
    intro pre suw prw z hs hw hp hz
    subst hz
    cases suw with
    | nil => simp [hs, hw] at hlen; omega
    | cons w suw =>
      have h1 : pre.length < ss.length := by simp [hs]
      have h1' : pre.length < ws.length := by omega
      have h2 : ss[pre.length] = s := by simp [hs]
      have h3 : ws[pre.length] = w := by simp [hw, ← hp]
      have kc := c62 s w
      have := ih (pre ++ [s]) suw (prw ++ [w]) (wr ((pre.length : Int) + 1)) (by simp [hs]) (by simp [hw]) (by simp [hp]) (by rw [wr_id (by omega) (by omega)]; simp)
      simp only [wordsD, ssl] at this
      cases hh : hasS s w with
      | true =>
        rw [hh] at kc
        simp [F63_b0, h1, h1', h2, h3, ssl, wordsD, spanC, kc]
        rw [go_inLoop]
        simp
        rw [this]
        simp [within, hh]
      | false =>
        rw [hh] at kc
        simp [F63_b0, h1, h1', h2, h3, ssl, wordsD, spanC, kc]
        simp [fin, F63, within, hh]

theorem c63_good (wide : Int) (ss : List Sp) (ws : List (BitVec 64)) (hl : ss.length < 1000000) (h1 : goodSS wide ss = true) (h2 : stateOk wide ss.length ws = true) :
    acall T X 63 [.d (.int .i64 wide), .d (ssl ss), .d (wordsD ws)] [] = some (.tup [.d (.bool (within ss ws)), .d (.bool true)], []) := by
  have hlen : ws.length = ss.length := by
    simp only [stateOk, Bool.and_eq_true, decide_eq_true_eq] at h2
    omega
  have k1 := c23 wide ss hl
  have k2 := c61 wide ss.length ws (by omega)
  rw [h1] at k1
  rw [h2] at k2
  have k3 := c63_loop ss ws hlen hl ss [] ws [] 0 rfl rfl rfl rfl
  simp only [ssl, wordsD] at k1 k2 k3 ⊢
  simp [e63, F63_c, k1, k2]
  rw [go_inLoop]
  simp
  exact k3
end Go.Proofs.Ytghhjbbildemiaa.AM

namespace Go.Proofs.Ytghhjbbildemiaa.AM
open Go

theorem c57 (l : List (BitVec 8)) (hl : l.length < 4611686018427387904) : Ev (acall T X 57 [.d (bytesD l)] []) fun r => ∃ n : Nat, r = (.d (.int .i64 n), []) ∧ n < 1000003 := by
  have loop : ∀ (suf pre : List (BitVec 8)) (z m : Int), l = pre ++ suf → z = pre.length → 0 ≤ m → m < 1000003 →
      Ev (go T X F57 0 [.code F57_b0, .inLoop [(3, .keep), (6, .keep), (7, .keep), (8, .keep)] F57_l0, .inBlock 0, .code (.kp [(3, .keep)] F57_t0)] [(3, .d (.int .i64 m)), (6, .d (bytesD l)), (7, .d (.int .i64 l.length)), (8, .d (.int .i64 z))] []) fun r => ∃ n : Nat, r = (.d (.int .i64 n), []) ∧ n < 1000003 := by
    intro suf
    induction suf with
    | nil =>
      intro pre z m hx hz h0 h1
      subst hz
      obtain ⟨k, rfl⟩ : ∃ k : Nat, m = k := ⟨m.toNat, by omega⟩
      have : l.length = pre.length := by simp [hx]
      simp [F57_b0, this, F57_t0]
      simp [fin, F57]
      exact ⟨k, rfl, by omega⟩
    | cons b suf ih =>
      intro pre z m hx hz h0 h1
      subst hz
      have h2 : pre.length < l.length := by simp [hx]
      have h3 : l[pre.length] = b := by simp [hx]
      have hb : b.toNat < 256 := b.isLt
      have w1 : wr (31 * m) = 31 * m := by rw [wr_id] <;> omega
      have w2 : wr (31 * m + (b.toNat : Int)) = 31 * m + (b.toNat : Int) := by rw [wr_id] <;> omega
      have e : (31 * m + (b.toNat : Int)).tmod 1000003 = (31 * m + (b.toNat : Int)) % 1000003 := Int.tmod_eq_emod_of_nonneg (by omega)
      have := ih (pre ++ [b]) (wr ((pre.length : Int) + 1)) ((31 * m + (b.toNat : Int)) % 1000003) (by simp [hx]) (by rw [wr_id (by omega) (by omega)]; simp) (by omega) (by omega)
      simp only [bytesD] at this
      simp [F57_b0, bytesD, h2, h3, w1, w2, e]
      rw [go_inLoop]
      simp
      exact this
  have := loop l [] 0 0 rfl rfl (by omega) (by omega)
  simp only [bytesD] at this ⊢
  simp [e57, F57_c]
  rw [go_inLoop]
  simp
  exact this
end Go.Proofs.Ytghhjbbildemiaa.AM

namespace Go.Proofs.Ytghhjbbildemiaa.AM
open Go

/-- The loop over a term's nodes with a pile of words. -/
noncomputable def G73 (wide : Nat) (ws : List (BitVec 64)) (t : List Nd) (S : List (BitVec 64)) (i : Int) : Option (AV × St) :=
  go T X F73 0 [.code F73_b0, .inLoop [(0, .keep), (2, .keep), (7, .ow 1), (12, .keep), (13, .keep), (14, .keep)] F73_l0, .inBlock 0, .code (.kp [(7, .keep)] F73_t2)]
    [(0, .d (.int .i64 wide)), (2, .d (wordsD ws)), (7, .hs 0 1 0 S.length), (12, .d (tsl t)), (13, .d (.int .i64 t.length)), (14, .d (.int .i64 i))]
    [.arr 1 (S.map fun w => [.w w]) true]

section
variable (wide : Nat) (h1 : 1 ≤ wide) (hwd : wide ≤ 64) (ws : List (BitVec 64)) (t : List Nd) (ht : t.length < 1000000) (S : List (BitVec 64)) (hS : S.length < 1000000) (i : Nat) (hi : i < t.length) (x : Nd) (hx : t[i] = x)
include h1 hwd ht hS hi hx

theorem G73_num (h : x.1 = 1 ∨ x.1 = 20) (R : Option (AV × St)) (hR : G73 wide ws t (S ++ [x.2]) ((i : Int) + 1) = R) : G73 wide ws t S i = R := by
  have hw1 : wr ((S.length : Int) - 1) = (S.length : Int) - 1 := by rw [wr_id] <;> omega
  have hw2 : wr ((i : Int) + 1) = (i : Int) + 1 := by rw [wr_id] <;> omega
  have hm : S.length + 1 ≤ maxApp := by simp only [maxApp]; omega
  unfold G73 at hR ⊢
  simp [tsl] at hR
  rcases h with h | h
  · simp [F73_b0, tsl, hi, hx, nodeV, node, h, hw1, F73_t0, hm, F73_t1, hw2]
    rw [go_inLoop]
    simp
    exact hR
  · simp [F73_b0, tsl, hi, hx, nodeV, node, h, hw1, F73_t0, hm, F73_t1, hw2]
    rw [go_inLoop]
    simp
    exact hR

theorem G73_var (h : x.1 = 2) (hv : x.2.toNat < ws.length) (R : Option (AV × St)) (hR : G73 wide ws t (S ++ [ws[x.2.toNat]]) ((i : Int) + 1) = R) : G73 wide ws t S i = R := by
  have hw1 : wr ((S.length : Int) - 1) = (S.length : Int) - 1 := by rw [wr_id] <;> omega
  have hw2 : wr ((i : Int) + 1) = (i : Int) + 1 := by rw [wr_id] <;> omega
  have hm : S.length + 1 ≤ maxApp := by simp only [maxApp]; omega
  unfold G73 at hR ⊢
  simp [tsl, wordsD] at hR
  simp [F73_b0, tsl, hi, hx, nodeV, node, h, hw1, F73_t0, hm, F73_t1, hw2, wordsD, hv]
  rw [go_inLoop]
  simp
  exact hR

theorem G73_flip (h : x.1 = 13) (s : BitVec 64) (R : Option (AV × St)) (hR : G73 wide ws t (S ++ [~~~s &&& endW wide]) ((i : Int) + 1) = R) : G73 wide ws t (S ++ [s]) i = R := by
  have hw1 : wr (S.length : Int) = (S.length : Int) := by rw [wr_id] <;> omega
  have hw2 : wr ((i : Int) + 1) = (i : Int) + 1 := by rw [wr_id] <;> omega
  have hlt : (S.length : Int) < (S.length : Int) + 1 := by omega
  have k19 := c19 wide (by omega) (by omega)
  rw [mask_end h1 hwd] at k19
  unfold G73 at hR ⊢
  simp [tsl] at hR
  simp [F73_b0, tsl, hi, hx, nodeV, node, h, hw1, F73_t0, hlt, F73_t1, hw2, k19]
  rw [go_inLoop]
  simp
  exact hR

theorem G73_no (h : x.1 = 19) (s : BitVec 64) (R : Option (AV × St)) (hR : G73 wide ws t (S ++ [1#64 - s]) ((i : Int) + 1) = R) : G73 wide ws t (S ++ [s]) i = R := by
  have hw1 : wr (S.length : Int) = (S.length : Int) := by rw [wr_id] <;> omega
  have hw2 : wr ((i : Int) + 1) = (i : Int) + 1 := by rw [wr_id] <;> omega
  have hlt : (S.length : Int) < (S.length : Int) + 1 := by omega
  unfold G73 at hR ⊢
  simp [tsl] at hR
  simp [F73_b0, tsl, hi, hx, nodeV, node, h, hw1, F73_t0, hlt, F73_t1, hw2]
  rw [go_inLoop]
  simp
  exact hR

theorem G73_two (h : many x.1 = 2) (a b : BitVec 64) (ha : gw wide a = true) (hb : gw wide b = true) (R : Option (AV × St)) (hR : G73 wide ws t (S ++ [applyW wide x.1 a b]) ((i : Int) + 1) = R) : G73 wide ws t (S ++ [a, b]) i = R := by
  have hw1 : wr ((S.length : Int) + 1) = (S.length : Int) + 1 := by rw [wr_id] <;> omega
  have hw0 : wr (S.length : Int) = (S.length : Int) := by rw [wr_id] <;> omega
  have hw3 : wr ((S.length : Int) + 2 - 1) = (S.length : Int) + 1 := by rw [wr_id] <;> omega
  have hw2 : wr ((i : Int) + 1) = (i : Int) + 1 := by rw [wr_id] <;> omega
  have hlt : (S.length : Int) < (S.length : Int) + 2 := by omega
  have hle : (S.length : Int) ≤ (S.length : Int) + 2 := by omega
  have hlt1 : (S.length : Int) + 1 < (S.length : Int) + 2 := by omega
  have h0 : (0 : Int) ≤ (S.length : Int) + 1 := by omega
  have hn : ((S.length : Int) + 1).toNat = S.length + 1 := by omega
  have hm : S.length + 1 ≤ maxApp := by simp only [maxApp]; omega
  have k := c72 wide h1 hwd x.1 h a b ha hb
  have n1 : ¬ x.1 = 1 := by rcases bi_cases h with q | q | q | q <;> omega
  have n2 : ¬ x.1 = 2 := by rcases bi_cases h with q | q | q | q <;> omega
  have n13 : ¬ x.1 = 13 := by rcases bi_cases h with q | q | q | q <;> omega
  have n19 : ¬ x.1 = 19 := by rcases bi_cases h with q | q | q | q <;> omega
  have n20 : ¬ x.1 = 20 := by rcases bi_cases h with q | q | q | q <;> omega
  unfold G73 at hR ⊢
  simp [tsl] at hR
  simp [F73_b0, tsl, hi, hx, nodeV, node, n1, n2, n13, n19, n20, hw0, hw1, hw3, F73_t0, hlt, hlt1, hle, h0, hn, F73_t1, hw2, k, hm]
  rw [go_inLoop]
  simp
  exact hR
end
end Go.Proofs.Ytghhjbbildemiaa.AM

namespace Go.Proofs.Ytghhjbbildemiaa.AM
open Go

def valS (wide : Nat) (ws : List (BitVec 64)) : Tr → BitVec 64
  | .lf x => if x.1 = 2 then ws.getD x.2.toNat 0#64 else x.2
  | .un x a => if x.1 = 13 then ~~~(valS wide ws a) &&& endW wide else 1#64 - valS wide ws a
  | .bi x a b => applyW wide x.1 (valS wide ws a) (valS wide ws b)

theorem and_end {wide : Nat} (h : wide ≤ 64) (a : BitVec 64) : (a &&& endW wide).toNat = a.toNat % 2 ^ wide := by
  rw [BitVec.toNat_and, endW_toNat h]
  exact Nat.and_two_pow_sub_one_eq_mod a.toNat wide

/-- A word lies in an interval. -/
def inS (v : BitVec 64) (s : Sp) : Prop := s.1.toNat ≤ v.toNat ∧ v.toNat ≤ s.2.toNat

theorem numS_has {wide : Nat} (h1 : 1 ≤ wide) (h : wide ≤ 64) {op : Int} (ho : 3 ≤ op ∧ op ≤ 12) {A B : Sp} {a b : BitVec 64} (hA : okS wide 1 A) (hB : okS wide 1 B) (ha : inS a A) (hb : inS b B) : inS (applyW wide op a b) (numS wide op A B) := by
  obtain ⟨A1, A2, _⟩ := hA
  obtain ⟨B1, B2, _⟩ := hB
  have A2 := A2 rfl
  have B2 := B2 rfl
  obtain ⟨a1, a2⟩ := ha
  obtain ⟨b1, b2⟩ := hb
  have hp : 0 < 2 ^ wide := Nat.two_pow_pos _
  have h64 : (2 : Nat) ^ wide ≤ 2 ^ 64 := Nat.pow_le_pow_right (by decide) h
  have h64' : (2 : Nat) ^ 64 = 18446744073709551616 := by decide
  have he := endW_toNat h
  have hv : (applyW wide op a b).toNat = (applyR wide op a b).toNat % 2 ^ wide := and_end h _
  have hlt : (applyW wide op a b).toNat < 2 ^ wide := by rw [hv]; exact Nat.mod_lt _ hp
  have all : inS (applyW wide op a b) (0#64, endW wide) := ⟨by simp, by simp only [he]; omega⟩
  have small : ∀ k : Nat, (applyR wide op a b).toNat = k → k < 2 ^ wide → (applyW wide op a b).toNat = k := fun k q1 q2 => by rw [hv, q1, Nat.mod_eq_of_lt q2]
  have hop : op = 3 ∨ op = 4 ∨ op = 5 ∨ op = 6 ∨ op = 7 ∨ op = 8 ∨ op = 9 ∨ op = 10 ∨ op = 11 ∨ op = 12 := by omega
  rcases hop with rfl | rfl | rfl | rfl | rfl | rfl | rfl | rfl | rfl | rfl
  · by_cases hc : A.2 ≤ endW wide - B.2
    · simp only [numS, hc, and_self, if_true, true_and]
      rw [BitVec.le_def, BitVec.toNat_sub_of_le (by rw [BitVec.le_def]; omega), he] at hc
      have := small (a.toNat + b.toNat) (by simp only [applyR, if_true, BitVec.toNat_add]; omega) (by omega)
      constructor
      · rw [this]; simp only [BitVec.toNat_add]; omega
      · rw [this]; simp only [BitVec.toNat_add]; omega
    · simpa [numS, hc] using all
  · by_cases hc : B.2 ≤ A.1
    · simp only [numS, hc, and_self, if_true, true_and, show ¬ ((4 : Int) = 3) by decide, show ¬ ((4 : Int) = 5) by decide, false_and, if_false]
      have q1 := BitVec.toNat_sub_of_le hc
      rw [BitVec.le_def] at hc
      have q2 := BitVec.toNat_sub_of_le (x := A.2) (y := B.1) (by rw [BitVec.le_def]; omega)
      have q3 := BitVec.toNat_sub_of_le (x := a) (y := b) (by rw [BitVec.le_def]; omega)
      have := small (a.toNat - b.toNat) (by simp [applyR, q3]) (by omega)
      constructor
      · rw [this]; simp only [q1]; omega
      · rw [this]; simp only [q2]; omega
    · simpa [numS, hc] using all
  · cases hc : fitsW wide A.2 B.2 with
    | true =>
      simp only [numS, hc, and_self, if_true, show ¬ ((5 : Int) = 3) by decide, false_and, if_false]
      have hf := fitsW_spec h hc
      have m1 : A.1.toNat * B.1.toNat ≤ a.toNat * b.toNat := Nat.mul_le_mul a1 b1
      have m2 : a.toNat * b.toNat ≤ A.2.toNat * B.2.toNat := Nat.mul_le_mul a2 b2
      have := small (a.toNat * b.toNat) (by simp [applyR, BitVec.toNat_mul]; omega) (by omega)
      constructor
      · rw [this]; simp only [BitVec.toNat_mul]; rw [Nat.mod_eq_of_lt (by omega)]; omega
      · rw [this]; simp only [BitVec.toNat_mul]; rw [Nat.mod_eq_of_lt (by omega)]; omega
    | false => simpa [numS, hc] using all
  · by_cases hc : 0#64 < B.1
    · have hB0 : 0 < B.1.toNat := by rw [BitVec.lt_def] at hc; simpa using hc
      have hb0 : ¬ b = 0#64 := by rintro rfl; simp at b1; omega
      have := small (a.toNat / b.toNat) (by simp [applyR, divW, hb0]) (Nat.lt_of_le_of_lt (Nat.div_le_self _ _) (by omega))
      simp only [numS, hc, and_self, if_true, show ¬ ((6 : Int) = 3) by decide, show ¬ ((6 : Int) = 5) by decide, show ¬ ((6 : Int) = 4) by decide, false_and, if_false]
      constructor
      · rw [this]; simp only [BitVec.toNat_udiv]; exact Nat.div_le_div a1 b2 (by omega)
      · rw [this]; simp only [BitVec.toNat_udiv]; exact Nat.div_le_div a2 b1 (by omega)
    · simpa [numS, hc] using all
  · have hr : (remW a b).toNat ≤ a.toNat ∧ (b.toNat ≠ 0 → (remW a b).toNat < b.toNat) := by
      unfold remW
      split
      · rename_i q; subst q; exact ⟨Nat.le_refl _, fun q => absurd rfl q⟩
      · rw [BitVec.toNat_umod]; exact ⟨Nat.mod_le _ _, fun q => Nat.mod_lt _ (by omega)⟩
    have := small (remW a b).toNat (by simp [applyR]) (by omega)
    by_cases hc : 0#64 < B.1
    · have hB0 : 0 < B.1.toNat := by rw [BitVec.lt_def] at hc; simpa using hc
      have q := BitVec.toNat_sub_of_le (x := B.2) (y := 1#64) (by rw [BitVec.le_def]; simp; omega)
      simp [numS, hc]
      refine ⟨by simp, ?_⟩
      simp only [this, leastW_toNat, q]
      have := hr.2 (by omega)
      simp
      omega
    · simp [numS, hc]
      refine ⟨by simp, ?_⟩
      simp only [this]; omega
  · have := small (a &&& b).toNat (by simp [applyR]) (by rw [BitVec.toNat_and]; exact Nat.lt_of_le_of_lt Nat.and_le_left (by omega))
    simp [numS]
    refine ⟨by simp, ?_⟩
    simp only [this, leastW_toNat, BitVec.toNat_and]
    have q1 : a.toNat &&& b.toNat ≤ a.toNat := Nat.and_le_left
    have q2 : a.toNat &&& b.toNat ≤ b.toNat := Nat.and_le_right
    omega
  · have ho2 : a.toNat ||| b.toNat < 2 ^ wide := Nat.or_lt_two_pow (by omega) (by omega)
    have := small (a ||| b).toNat (by simp [applyR]) (by rw [BitVec.toNat_or]; exact ho2)
    simp [numS]
    constructor
    · simp only [this, mostW_toNat, BitVec.toNat_or]
      have q1 : a.toNat ≤ a.toNat ||| b.toNat := Nat.left_le_or
      have q2 : b.toNat ≤ a.toNat ||| b.toNat := Nat.right_le_or
      omega
    · simp only [he]; omega
  · simpa [numS] using all
  · simpa [numS] using all
  · have hs : (shiftW wide a b false).toNat ≤ a.toNat := by
      unfold shiftW
      split
      · simp
      · simp only [Bool.false_eq_true, if_false, srl, BitVec.toNat_ushiftRight, Nat.shiftRight_eq_div_pow]
        exact Nat.div_le_self _ _
    have := small (shiftW wide a b false).toNat (by simp [applyR]) (by omega)
    simp [numS]
    refine ⟨by simp, ?_⟩
    simp only [this]; omega
end Go.Proofs.Ytghhjbbildemiaa.AM

namespace Go.Proofs.Ytghhjbbildemiaa.AM
open Go

theorem truthW_toNat (p : Bool) : (truthW p).toNat = if p = true then 1 else 0 := by cases p <;> rfl

theorem askS_has {wide : Nat} (h1 : 1 ≤ wide) (h : wide ≤ 64) {op : Int} {A B : Sp} {a b : BitVec 64} (ho : (14 ≤ op ∧ op ≤ 16) ∨ ((op = 17 ∨ op = 18) ∧ A.2.toNat ≤ 1 ∧ B.2.toNat ≤ 1)) (ha : inS a A) (hb : inS b B) : inS (applyW wide op a b) (askS op A B) := by
  obtain ⟨a1, a2⟩ := ha
  obtain ⟨b1, b2⟩ := hb
  have hp : 2 ≤ 2 ^ wide := by
    calc 2 = 2 ^ 1 := rfl
      _ ≤ 2 ^ wide := Nat.pow_le_pow_right (by decide) h1
  have hv : (applyW wide op a b).toNat = (applyR wide op a b).toNat % 2 ^ wide := and_end h _
  have small : ∀ k : Nat, (applyR wide op a b).toNat = k → k ≤ 1 → (applyW wide op a b).toNat = k := fun k q1 q2 => by rw [hv, q1, Nat.mod_eq_of_lt (by omega)]
  have hop : op = 14 ∨ op = 15 ∨ op = 16 ∨ op = 17 ∨ op = 18 := by omega
  rcases hop with rfl | rfl | rfl | rfl | rfl
  · have hs := small (if (a == b) = true then 1 else 0) (by simp [applyR, truthW_toNat]) (by split <;> omega)
    unfold askS
    split
    · rename_i hc
      have hc := hc.2
      rw [BitVec.lt_def, BitVec.lt_def] at hc
      have : ¬ (a == b) = true := by
        intro q
        have := eq_of_beq q
        subst this
        omega
      rw [if_neg this] at hs
      exact ⟨by simp, by simp [hs]⟩
    · split
      · rename_i hc
        obtain ⟨_, hc1, rfl⟩ := hc
        have : a = b := by
          apply BitVec.eq_of_toNat_eq
          rw [hc1] at a1 b1
          omega
        subst this
        rw [if_pos (by simp)] at hs
        exact ⟨by simp [hs], by simp [hs]⟩
      · simp
        refine ⟨by simp, ?_⟩
        rw [hs]; split <;> simp
  · have hs := small (if decide (a < b) = true then 1 else 0) (by simp [applyR, truthW_toNat]) (by split <;> omega)
    unfold askS
    split
    · rename_i hc; exact absurd hc.1 (by decide)
    split
    · rename_i hc; exact absurd hc.1 (by decide)
    split
    · rename_i hc
      have hc := hc.2
      rw [BitVec.lt_def] at hc
      rw [if_pos (by rw [decide_eq_true_eq, BitVec.lt_def]; omega)] at hs
      exact ⟨by simp [hs], by simp [hs]⟩
    split
    · rename_i hc
      have hc := hc.2
      rw [BitVec.le_def] at hc
      rw [if_neg (by rw [decide_eq_true_eq, BitVec.lt_def]; omega)] at hs
      exact ⟨by simp, by simp [hs]⟩
    simp
    refine ⟨by simp, ?_⟩
    rw [hs]; split <;> simp
  · have hs := small (if decide (signedW wide a < signedW wide b) = true then 1 else 0) (by simp [applyR, truthW_toNat]) (by split <;> omega)
    simp [askS]
    refine ⟨by simp, ?_⟩
    rw [hs]; split <;> simp
  · obtain ⟨q1, q2⟩ : A.2.toNat ≤ 1 ∧ B.2.toNat ≤ 1 := by omega
    have e : (a &&& b).toNat = min a.toNat b.toNat := by
      rw [BitVec.toNat_and]
      have ha : a.toNat = 0 ∨ a.toNat = 1 := by omega
      have hb : b.toNat = 0 ∨ b.toNat = 1 := by omega
      rcases ha with ha | ha <;> rcases hb with hb | hb <;> rw [ha, hb] <;> rfl
    have hs := small (min a.toNat b.toNat) (by simp [applyR]; rw [← e, BitVec.toNat_and]) (by omega)
    simp [askS]
    constructor
    · simp only [hs, leastW_toNat]; omega
    · simp only [hs, leastW_toNat]; omega
  · obtain ⟨q1, q2⟩ : A.2.toNat ≤ 1 ∧ B.2.toNat ≤ 1 := by omega
    have e : (a ||| b).toNat = max a.toNat b.toNat := by
      rw [BitVec.toNat_or]
      have ha : a.toNat = 0 ∨ a.toNat = 1 := by omega
      have hb : b.toNat = 0 ∨ b.toNat = 1 := by omega
      rcases ha with ha | ha <;> rcases hb with hb | hb <;> rw [ha, hb] <;> rfl
    have hs := small (max a.toNat b.toNat) (by simp [applyR]; rw [← e, BitVec.toNat_or]) (by omega)
    simp [askS]
    constructor
    · simp only [hs, mostW_toNat]; omega
    · simp only [hs, mostW_toNat]; omega
end Go.Proofs.Ytghhjbbildemiaa.AM

namespace Go.Proofs.Ytghhjbbildemiaa.AM
open Go

theorem within_get : ∀ {ss : List Sp} {ws : List (BitVec 64)}, within ss ws = true → ∀ (k : Nat) (h1 : k < ss.length) (h2 : k < ws.length), hasS ss[k] ws[k] = true
  | [], _, _, k, h1, _ => by simp at h1
  | _ :: _, [], _, k, _, h2 => by simp at h2
  | s :: ss, w :: ws, h, k, h1, h2 => by
    simp only [within, Bool.and_eq_true] at h
    cases k with
    | zero => exact h.1
    | succ k => exact within_get h.2 k (by simpa using h1) (by simpa using h2)

theorem valS_in {wide : Nat} (h1 : 1 ≤ wide) (hw : wide ≤ 64) {ss : List Sp} (hs : ∀ s ∈ ss, goodS wide s = true) (hl : ss.length < 1000) {ws : List (BitVec 64)} (hlen : ws.length = ss.length) (hin : within ss ws = true) :
    ∀ r : Tr, r.good wide ss.length → inS (valS wide ws r) (spanS wide ss r)
  | .lf x, hg => by
    obtain ⟨hm, h2, h3⟩ := hg
    by_cases hv : x.1 = 2
    · simp [leafOk, hv] at h3
      rw [BitVec.lt_def, ofI_toNat hl] at h3
      have := within_get hin x.2.toNat h3 (by omega)
      simp only [hasS, Bool.and_eq_true, decide_eq_true_eq, BitVec.le_def] at this
      simp [valS, spanS, hv, List.getElem?_eq_getElem h3, List.getElem?_eq_getElem (show x.2.toNat < ws.length by omega)]
      exact this
    · simp [valS, spanS, hv]
      exact ⟨Nat.le_refl _, Nat.le_refl _⟩
  | .un x a, hg => by
    obtain ⟨hm, h2, h3, h4, hga⟩ := hg
    have hok := spanS_ok hw hs hl a hga
    rw [h4] at hok
    obtain ⟨i1, i2⟩ := valS_in h1 hw hs hl hlen hin a hga
    obtain ⟨o1, o2, o3⟩ := hok
    rcases un_cases hm with h | h
    · have o2 := o2 (by simp [part, h])
      have hv : (~~~(valS wide ws a) &&& endW wide) = notW wide (valS wide ws a) := by
        apply BitVec.eq_of_toNat_eq
        rw [and_end hw, notW, cutK_toNat]
      simp only [valS, spanS, h, if_true, hv]
      constructor
      · simp only [notW_toNat hw o2, notW_toNat hw (Nat.lt_of_le_of_lt i2 o2)]; omega
      · simp only [notW_toNat hw (Nat.lt_of_le_of_lt i2 o2), notW_toNat hw (Nat.lt_of_le_of_lt o1 o2)]; omega
    · have o3 := o3 (by simp [part, h])
      have e1 := BitVec.toNat_sub_of_le (x := 1#64) (y := (spanS wide ss a).2) (by rw [BitVec.le_def]; simpa using o3)
      have e2 := BitVec.toNat_sub_of_le (x := 1#64) (y := (spanS wide ss a).1) (by rw [BitVec.le_def]; simp; omega)
      have e3 := BitVec.toNat_sub_of_le (x := 1#64) (y := valS wide ws a) (by rw [BitVec.le_def]; simp; omega)
      simp [valS, spanS, h]
      constructor
      · simp only [e1, e3]; omega
      · simp only [e2, e3]; omega
  | .bi x a b, hg => by
    obtain ⟨hm, h2, h3, h4, h5, hga, hgb⟩ := hg
    have hoa := spanS_ok hw hs hl a hga
    have hob := spanS_ok hw hs hl b hgb
    rw [h4] at hoa
    rw [h5] at hob
    have ia := valS_in h1 hw hs hl hlen hin a hga
    have ib := valS_in h1 hw hs hl hlen hin b hgb
    rcases bi_cases hm with h | h | h | h
    · have hk : ownK x.1 = 1 := by unfold ownK; rw [if_pos (by omega)]
      have hp : part x.1 = 1 := by unfold part; rw [if_pos (by omega)]
      rw [hp] at hoa hob
      simp only [valS, spanS, hk, if_true]
      exact numS_has h1 hw h hoa hob ia ib
    · have hk : ownK x.1 = 2 := by unfold ownK; rw [if_neg (by omega), if_pos (by omega)]
      simp only [valS, spanS, hk]
      exact askS_has h1 hw (.inl h) ia ib
    · have hk : ownK x.1 = 2 := by simp [ownK, h]
      have hp : part x.1 = 2 := by simp [part, h]
      simp only [valS, spanS, hk]
      exact askS_has h1 hw (.inr ⟨.inl h, hoa.2.2 hp, hob.2.2 hp⟩) ia ib
    · have hk : ownK x.1 = 2 := by simp [ownK, h]
      have hp : part x.1 = 2 := by simp [part, h]
      simp only [valS, spanS, hk]
      exact askS_has h1 hw (.inr ⟨.inr h, hoa.2.2 hp, hob.2.2 hp⟩) ia ib
end Go.Proofs.Ytghhjbbildemiaa.AM

namespace Go.Proofs.Ytghhjbbildemiaa.AM
open Go

theorem gw_of {wide : Nat} (h1 : 1 ≤ wide) (h : wide ≤ 64) {a : BitVec 64} (ha : a.toNat < 2 ^ wide) : gw wide a = true := by
  simp only [gw, Bool.and_eq_true, decide_eq_true_eq]
  exact ⟨by omega, by omega, by simpa using ha⟩

theorem two_le {wide : Nat} (h1 : 1 ≤ wide) : 2 ≤ 2 ^ wide := by
  calc 2 = 2 ^ 1 := rfl
    _ ≤ 2 ^ wide := Nat.pow_le_pow_right (by decide) h1

/-- What is seen of a tree's value: a word of the width. -/
theorem G73_tree (wide : Nat) (h1 : 1 ≤ wide) (hw : wide ≤ 64) (ss : List Sp) (hs : ∀ s ∈ ss, goodS wide s = true) (hl : ss.length < 1000) (ws : List (BitVec 64)) (hlen : ws.length = ss.length) (hin : within ss ws = true) (t : List Nd) (ht : t.length < 1000) : ∀ (r : Tr) (pre post : List Nd) (S : List (BitVec 64)), r.good wide ss.length → t = pre ++ (r.flat ++ post) → S.length ≤ pre.length →
    ∀ R, G73 wide ws t (S ++ [valS wide ws r]) ((pre.length + r.flat.length : Nat) : Int) = R → G73 wide ws t S (pre.length : Int) = R
  | .lf x, pre, post, S, hg, he, hS, R, hR => by
    obtain ⟨hm, h2, h3⟩ := hg
    simp only [Tr.flat] at he hR
    have hi : pre.length < t.length := by simp [he]
    have hx : t[pre.length] = x := by simp [he]
    have hc : ((pre.length + [x].length : Nat) : Int) = (pre.length : Int) + 1 := by simp
    rw [hc] at hR
    rcases leaf_cases hm h2 with h | h | h
    · refine G73_num wide h1 hw ws t (by omega) S (by omega) pre.length hi x hx (.inl h) R ?_
      simpa [valS, h] using hR
    · have hv : x.2.toNat < ws.length := by
        simp [leafOk, h] at h3
        rw [BitVec.lt_def, ofI_toNat hl] at h3
        omega
      refine G73_var wide h1 hw ws t (by omega) S (by omega) pre.length hi x hx h hv R ?_
      simpa [valS, h, hv] using hR
    · refine G73_num wide h1 hw ws t (by omega) S (by omega) pre.length hi x hx (.inr h) R ?_
      simpa [valS, h] using hR
  | .un x a, pre, post, S, hg, he, hS, R, hR => by
    obtain ⟨hm, h2, h3, h4, hga⟩ := hg
    simp only [Tr.flat] at he hR
    refine G73_tree wide h1 hw ss hs hl ws hlen hin t ht a pre (x :: post) S hga (by simp [he]) hS R ?_
    have hi : pre.length + a.flat.length < t.length := by simp [he]
    have hx : t[pre.length + a.flat.length] = x := by simp [he]
    have hc : ((pre.length + (a.flat ++ [x]).length : Nat) : Int) = ((pre.length + a.flat.length : Nat) : Int) + 1 := by simp; omega
    rw [hc] at hR
    rcases un_cases hm with h | h
    · refine G73_flip wide h1 hw ws t (by omega) S (by omega) _ hi x hx h _ R ?_
      simpa [valS, h] using hR
    · refine G73_no wide h1 hw ws t (by omega) S (by omega) _ hi x hx h _ R ?_
      simpa [valS, h] using hR
  | .bi x a b, pre, post, S, hg, he, hS, R, hR => by
    obtain ⟨hm, h2, h3, h4, h5, hga, hgb⟩ := hg
    simp only [Tr.flat] at he hR
    have hoa := spanS_ok hw hs hl a hga
    have hob := spanS_ok hw hs hl b hgb
    rw [h4] at hoa
    rw [h5] at hob
    have ia := valS_in h1 hw hs hl hlen hin a hga
    have ib := valS_in h1 hw hs hl hlen hin b hgb
    have h2w := two_le h1
    have hpt : part x.1 = 1 ∨ part x.1 = 2 := by
      rcases bi_cases hm with h | h | h | h
      · left; unfold part; rw [if_pos (by omega)]
      · left; unfold part; rw [if_pos (by omega)]
      · right; simp [part, h]
      · right; simp [part, h]
    have gwv : ∀ {v : BitVec 64} {s : Sp}, okS wide (part x.1) s → inS v s → gw wide v = true := by
      intro v s q1 q2
      refine gw_of h1 hw ?_
      rcases hpt with hp | hp
      · have := q1.2.1 hp; have := q2.2; omega
      · have := q1.2.2 hp; have := q2.2; omega
    refine G73_tree wide h1 hw ss hs hl ws hlen hin t ht a pre (b.flat ++ (x :: post)) S hga (by simp [he]) hS R ?_
    have e1 : ((pre.length + a.flat.length : Nat) : Int) = ((pre ++ a.flat).length : Nat) := by simp
    rw [e1]
    have hp := a.flat_pos
    refine G73_tree wide h1 hw ss hs hl ws hlen hin t ht b (pre ++ a.flat) (x :: post) (S ++ [valS wide ws a]) hgb (by simp [he]) (by simp; omega) R ?_
    have hi : (pre ++ a.flat).length + b.flat.length < t.length := by simp [he]; omega
    have hx : t[(pre ++ a.flat).length + b.flat.length] = x := by simp [he, Nat.add_assoc]
    have hc : ((pre.length + (a.flat ++ (b.flat ++ [x])).length : Nat) : Int) = (((pre ++ a.flat).length + b.flat.length : Nat) : Int) + 1 := by simp; omega
    rw [hc] at hR
    rw [List.append_assoc]
    refine G73_two wide h1 hw ws t (by omega) S (by omega) _ hi x hx hm _ _ (gwv hoa ia) (gwv hob ib) R ?_
    exact hR
end Go.Proofs.Ytghhjbbildemiaa.AM

namespace Go.Proofs.Ytghhjbbildemiaa.AM
open Go

theorem c73 (wide : Nat) (h1 : 1 ≤ wide) (hw : wide ≤ 64) (ss : List Sp) (hs : ∀ s ∈ ss, goodS wide s = true) (hl : ss.length < 1000) (ws : List (BitVec 64)) (hlen : ws.length = ss.length) (hin : within ss ws = true) (r : Tr) (ht : r.flat.length < 1000) (hg : r.good wide ss.length) :
    acall T X 73 [.d (.int .i64 wide), .d (tsl r.flat), .d (wordsD ws)] [] = some (.d (.w (valS wide ws r)), []) := by
  have hend : G73 wide ws r.flat [valS wide ws r] (r.flat.length : Int) = some (.d (.w (valS wide ws r)), []) := by
    unfold G73
    simp [F73_b0, F73_t2]
    simp [fin, F73]
  have hm := G73_tree wide h1 hw ss hs hl ws hlen hin r.flat ht r [] [] [] hg (by simp) (by simp) _ (by simpa using hend)
  unfold G73 at hm
  simp [tsl, wordsD] at hm
  simp [e73, F73_c, tsl, wordsD]
  rw [go_inLoop]
  simp
  exact hm

theorem c74_good (wide : Nat) (h1 : 1 ≤ wide) (hw : wide ≤ 64) (ss : List Sp) (hs : ∀ s ∈ ss, goodS wide s = true) (hl : ss.length < 1000) (ws : List (BitVec 64)) (hlen : ws.length = ss.length) (hin : within ss ws = true) (r : Tr) (ht : r.flat.length < 1000) (hg : r.good wide ss.length) (hgt : goodT wide ss.length r.flat = true) (hst : stateOk wide ss.length ws = true) :
    acall T X 74 [.d (.int .i64 wide), .d (tsl r.flat), .d (wordsD ws)] [] = some (.tup [.d (.w (valS wide ws r)), .d (.bool true)], []) := by
  have k0 := c73 wide h1 hw ss hs hl ws hlen hin r ht hg
  have k1 := c61 wide ss.length ws (by omega)
  have k2 := c29 wide ss.length r.flat (by omega)
  rw [hst] at k1
  rw [hgt] at k2
  rw [← hlen] at k1 k2
  simp only [tsl, wordsD] at k0 k1 k2 ⊢
  simp [e74, F74_c, k0, k1, k2]
  simp [fin, F74]

theorem c1 (a b : List (BitVec 8)) (ha : a.length < 4611686018427387904) (hb : b.length < 4611686018427387904) :
    acall T X 1 [.d (bytesD a), .d (bytesD b)] [] = some (.d (.bool (decide (1048576 < a.length + b.length))), []) := by
  have hw : wr (1048576 - (a.length : Int)) = 1048576 - (a.length : Int) := by rw [wr_id] <;> omega
  by_cases h : (1048576 : Int) < a.length
  · have h2 : 1048576 < a.length + b.length := by omega
    simp [e1, F1_c, bytesD, h]
    simp [fin, F1, h2]
  · have h2 : (1048576 - (a.length : Int) < b.length) ↔ (1048576 < a.length + b.length) := by omega
    simp [e1, F1_c, bytesD, h, hw]
    simp [fin, F1, h2]
end Go.Proofs.Ytghhjbbildemiaa.AM

namespace Go.Proofs.Ytghhjbbildemiaa.AM
open Go

theorem meet_law (wide : Int) (a b : Sp) (h : (meetR wide a b).2 = true) : (joinR wide a b).2 = true ∧ a.1 ≤ (meetR wide a b).1.1 ∧ b.1 ≤ (meetR wide a b).1.1 ∧ (meetR wide a b).1.2 ≤ a.2 ∧ (meetR wide a b).1.2 ≤ b.2 ∧
    (joinR wide a b).1.1 ≤ (meetR wide a b).1.1 ∧ (meetR wide a b).1.2 ≤ (joinR wide a b).1.2 := by
  cases hg : goodS wide a && goodS wide b with
  | false => simp [meetR, hg] at h
  | true =>
    simp only [meetR, hg, if_true] at h
    simp only [meetR, joinR, hg, if_true, true_and]
    have hmt : meets a b = !decide (leastW a.2 b.2 < mostW a.1 b.1) := by unfold meets; rw [minW_eq, maxW_eq]
    have hms : meetS a b = if leastW a.2 b.2 < mostW a.1 b.1 then (0#64, 0#64) else (mostW a.1 b.1, leastW a.2 b.2) := by unfold meetS; rw [minW_eq, maxW_eq]
    rw [hmt] at h
    have h : ¬ leastW a.2 b.2 < mostW a.1 b.1 := by simpa using h
    rw [hms, if_neg h]
    simp only [joinS, BitVec.le_def, leastW_toNat, mostW_toNat]
    omega

set_option maxRecDepth 8000 in
theorem c83_t3 (l : List (BitVec 8)) : go T X F83 0 [.code F83_t3] [(1, .d (bytesD l))] [] = some (.d (.bool true), []) := by
  obtain ⟨wide, a, b, c, d, h, h1, h2⟩ := c76 l
  have k78 := c78 wide (a, b) (c, d)
  have k80 := c80 wide (a, b) (c, d)
  have k81 := c81 wide (a, b) (c, d)
  have k82 := c82 wide (a, b) (c, d)
  have law := meet_law wide (a, b) (c, d)
  generalize joinR wide (a, b) (c, d) = j at *
  generalize meetR wide (a, b) (c, d) = m at *
  obtain ⟨⟨j1, j2⟩, jo⟩ := j
  obtain ⟨⟨m1, m2⟩, mo⟩ := m
  simp only [spV] at k78 k80 k81 k82
  simp only [bytesD] at h ⊢
  cases mo
  · simp [F83_t3, h, k78, k80, k81, k82]
    simp [fin, F83]
  · obtain ⟨q1, q2, q3, q4, q5, q6, q7⟩ := law rfl
    simp only at q1 q2 q3 q4 q5 q6 q7
    subst q1
    simp [F83_t3, h, k78, k80, k81, k82, q2, q3, q4, q5, q6, q7]
    simp [fin, F83]
end Go.Proofs.Ytghhjbbildemiaa.AM

namespace Go.Proofs.Ytghhjbbildemiaa.AM
open Go

/-- A word out of an interval. -/
def stW (q : BitVec 64) (s : Sp) : BitVec 64 := if s.2 - s.1 < 1000000#64 then s.1 + q % (s.2 - s.1 + 1#64) else s.1 + q % 1000000#64
theorem stW_has (q : BitVec 64) {s : Sp} (h : s.1 ≤ s.2) : hasS s (stW q s) = true := by
  have e := BitVec.toNat_sub_of_le h
  rw [BitVec.le_def] at h
  have h2 := s.2.isLt
  have key : ∀ w : BitVec 64, w.toNat ≤ s.2.toNat - s.1.toNat → hasS s (s.1 + w) = true := by
    intro w hw
    simp only [hasS, Bool.and_eq_true, decide_eq_true_eq, BitVec.le_def, BitVec.toNat_add]
    omega
  unfold stW
  split
  · rename_i hc
    rw [BitVec.lt_def, e] at hc
    simp at hc
    apply key
    have e2 : (s.2 - s.1 + 1#64).toNat = s.2.toNat - s.1.toNat + 1 := by rw [BitVec.toNat_add, e]; simp; omega
    rw [BitVec.toNat_umod, e2]
    have := Nat.mod_lt q.toNat (show 0 < s.2.toNat - s.1.toNat + 1 by omega)
    omega
  · rename_i hc
    rw [BitVec.lt_def, e] at hc
    simp at hc
    apply key
    rw [BitVec.toNat_umod]
    have := Nat.mod_lt q.toNat (show 0 < (1000000#64).toNat by decide)
    simp at this ⊢
    omega

def stL (m : Int) : Nat → List Sp → List (BitVec 64)
  | _, [] => []
  | k, s :: ss => stW (ofI (wr (m.tdiv ((k : Int) + 1)))) s :: stL m (k + 1) ss
theorem stL_len (m : Int) : ∀ (k : Nat) (ss : List Sp), (stL m k ss).length = ss.length
  | _, [] => rfl
  | k, s :: ss => by simp [stL, stL_len m (k + 1) ss]
theorem stL_within (m : Int) : ∀ (k : Nat) (ss : List Sp), (∀ s ∈ ss, s.1 ≤ s.2) → within ss (stL m k ss) = true
  | _, [], _ => rfl
  | k, s :: ss, h => by
    simp only [stL, within, Bool.and_eq_true]
    exact ⟨stW_has _ (h s (by simp)), stL_within m (k + 1) ss fun s hs => h s (by simp [hs])⟩

/-- The loop that makes the state. -/
noncomputable def G83 (l : List (BitVec 8)) (wide : Nat) (t : List Nd) (ss : List Sp) (s : Sp) (K : List AT) (ws : List (BitVec 64)) (i : Int) : Option (AV × St) :=
  go T X F83 0 (.code F83_b0 :: .inLoop [(1, .keep), (5, .keep), (6, .keep), (7, .keep), (8, .keep), (12, .ow 1), (73, .keep), (74, .keep), (75, .keep)] F83_l0 :: .inBlock 0 :: K)
    [(1, .d (bytesD l)), (5, .d (.int .i64 wide)), (6, .d (tsl t)), (7, .d (ssl ss)), (8, .ptr 0 0 0 0), (12, .hs 1 1 0 ws.length), (73, .d (ssl ss)), (74, .d (.int .i64 ss.length)), (75, .d (.int .i64 i))]
    [.box [.d (.w s.1), .d (.w s.2)], .arr 1 (ws.map fun w => [.w w]) true]

theorem G83_step (l : List (BitVec 8)) (wide : Nat) (t : List Nd) (ss : List Sp) (s : Sp) (K : List AT) (ws : List (BitVec 64)) (m : Int) (hm : acall T X 57 [.d (bytesD l)] [] = some (.d (.int .i64 m), [])) (i : Nat) (hi : i < ss.length) (hl : ss.length < 1000) (hw : ws.length < 1000) (x : Sp) (hx : ss[i] = x) (R : Option (AV × St))
    (hR : G83 l wide t ss s K (ws ++ [stW (ofI (wr (m.tdiv ((i : Int) + 1)))) x]) ((i : Int) + 1) = R) : G83 l wide t ss s K ws i = R := by
  have hw1 : wr ((i : Int) + 1) = (i : Int) + 1 := by rw [wr_id] <;> omega
  have hn : ¬ (i : Int) + 1 = 0 := by omega
  have hma : ws.length + 1 ≤ maxApp := by simp only [maxApp]; omega
  unfold G83 at hR ⊢
  simp only [bytesD] at hm hR ⊢
  simp [tsl, ssl, spanC] at hR
  by_cases hc : x.2 - x.1 < 1000000#64
  · have hz : ¬ x.2 - x.1 + 1#64 = 0#64 := by
      intro q
      have := congrArg BitVec.toNat q
      rw [BitVec.lt_def] at hc
      rw [BitVec.toNat_add] at this
      simp at hc this
      omega
    simp only [stW, hc, if_true] at hR
    simp [F83_b0, tsl, ssl, spanC, hi, hx, hc, hm, hw1, hn, hz]
    simp [F83_t0, hma]
    simp [F83_t1, hw1]
    rw [go_inLoop]
    simp
    exact hR
  · simp only [stW, hc, if_false] at hR
    simp [F83_b0, tsl, ssl, spanC, hi, hx, hc, hm, hw1, hn]
    simp [F83_t0, hma]
    simp [F83_t1, hw1]
    rw [go_inLoop]
    simp
    exact hR

theorem G83_loop (l : List (BitVec 8)) (wide : Nat) (t : List Nd) (ss : List Sp) (s : Sp) (K : List AT) (m : Int) (hm : acall T X 57 [.d (bytesD l)] [] = some (.d (.int .i64 m), [])) (hl : ss.length < 1000) : ∀ (suf pre : List Sp) (ws : List (BitVec 64)) (R : Option (AV × St)), ss = pre ++ suf → ws.length = pre.length →
    G83 l wide t ss s K (ws ++ stL m pre.length suf) ss.length = R → G83 l wide t ss s K ws (pre.length : Int) = R
  | [], pre, ws, R, h, _, hR => by
    simpa [stL, h] using hR
  | x :: suf, pre, ws, R, h, hw, hR => by
    refine G83_step l wide t ss s K ws m hm pre.length (by simp [h]) hl (by simp [h] at hl; omega) x (by simp [h]) R ?_
    have := G83_loop l wide t ss s K m hm hl suf (pre ++ [x]) (ws ++ [stW (ofI (wr (m.tdiv ((pre.length : Int) + 1)))) x]) R (by simp [h]) (by simp [hw]) (by simpa [stL] using hR)
    simpa using this
end Go.Proofs.Ytghhjbbildemiaa.AM

namespace Go.Proofs.Ytghhjbbildemiaa.AM
open Go

theorem Tr.own {wide vars : Int} : ∀ r : Tr, r.good wide vars → ownK r.root.1 ≠ 0
  | .lf _, h => h.2.1
  | .un _ _, h => h.2.1
  | .bi _ _ _, h => h.2.1

theorem spanS_good {wide : Nat} (h1 : 1 ≤ wide) (hw : wide ≤ 64) {ss : List Sp} (hs : ∀ s ∈ ss, goodS wide s = true) (hl : ss.length < 1000) (r : Tr) (hg : r.good wide ss.length) : goodS wide (spanS wide ss r) = true := by
  obtain ⟨o1, o2, o3⟩ := spanS_ok hw hs hl r hg
  have h2 := two_le h1
  simp only [goodS, Bool.and_eq_true, decide_eq_true_eq, BitVec.le_def]
  refine ⟨gw_of h1 hw ?_, o1⟩
  have hk : r.kind = 1 ∨ r.kind = 2 := by
    have := r.own hg
    rcases ownK_cases r.root.1 with q | q | q
    · exact absurd q this
    · exact .inl q
    · exact .inr q
  rcases hk with hk | hk
  · exact o2 hk
  · have := o3 hk; omega

theorem within_gw {wide : Nat} (h1 : 1 ≤ wide) (hw : wide ≤ 64) : ∀ {ss : List Sp} {ws : List (BitVec 64)}, ws.length = ss.length → (∀ s ∈ ss, goodS wide s = true) → within ss ws = true → ws.all (gw wide) = true
  | [], [], _, _, _ => rfl
  | [], _ :: _, h, _, _ => by simp at h
  | _ :: _, [], h, _, _ => by simp at h
  | s :: ss, w :: ws, h, hs, hin => by
    simp only [within, Bool.and_eq_true] at hin
    simp only [List.all_cons, Bool.and_eq_true]
    refine ⟨?_, within_gw h1 hw (by simpa using h) (fun q hq => hs q (by simp [hq])) hin.2⟩
    have g := hs s (by simp)
    simp only [goodS, Bool.and_eq_true] at g
    have hh := hin.1
    simp only [hasS, Bool.and_eq_true, decide_eq_true_eq] at hh
    exact gw_le g.1 hh.2

/-- Behind the loop. -/
theorem c83_t2 (l : List (BitVec 8)) (wide : Nat) (h1 : 1 ≤ wide) (hw : wide ≤ 64) (ss : List Sp) (hl : ss.length < 1000) (h2 : goodSS wide ss = true) (ws : List (BitVec 64)) (hlen : ws.length = ss.length) (hin : within ss ws = true) (r : Tr) (ht : r.flat.length < 1000) (hg : r.good wide ss.length) (hgt : goodT wide ss.length r.flat = true) :
    G83 l wide r.flat ss (spanS wide ss r) [.code (.kp [(1, .keep), (5, .keep), (6, .keep), (7, .keep), (8, .keep), (12, .keep)] F83_t2), .code (.kp [(1, .keep)] F83_t3)] ws ss.length = some (.d (.bool true), []) := by
  have hs : ∀ s ∈ ss, goodS wide s = true := by
    simp only [goodSS, Bool.and_eq_true, List.all_eq_true] at h2
    exact h2.2
  have hst : stateOk wide ss.length ws = true := by
    simp only [goodSS, Bool.and_eq_true, decide_eq_true_eq] at h2
    simp only [stateOk, Bool.and_eq_true, decide_eq_true_eq]
    refine ⟨⟨⟨⟨by omega, by omega⟩, by omega, by omega⟩, by omega⟩, within_gw h1 hw hlen hs hin⟩
  have k1 := c63_good wide ss ws (by omega) h2 hst
  have k2 := c74_good wide h1 hw ss hs hl ws hlen hin r ht hg hgt hst
  obtain ⟨v1, v2⟩ := valS_in h1 hw hs hl hlen hin r hg
  have v1' : ¬ valS wide ws r < (spanS wide ss r).1 := by rw [BitVec.lt_def]; omega
  have v2' : ¬ (spanS wide ss r).2 < valS wide ws r := by rw [BitVec.lt_def]; omega
  have k3 := c83_t3 l
  rw [hin] at k1
  simp only [tsl, ssl, wordsD, bytesD] at k1 k2 k3 ⊢
  unfold G83
  simp only [tsl, ssl, wordsD, bytesD]
  simp [F83_b0, F83_t2, k1, k2, v1', v2', k3]

theorem c83 (l m : List (BitVec 8)) (hl : l.length < 4611686018427387904) (hm : m.length < 4611686018427387904) : acall T X 83 [.d (bytesD l), .d (bytesD m)] [] = some (.d (.bool true), []) := by
  have k1 := c1 l m hl hm
  by_cases hb : 1048576 < l.length + m.length
  · simp only [bytesD] at k1 ⊢
    simp [e83, F83_c, k1, hb]
    simp [fin, F83]
  obtain ⟨wide, t, ss, k14, hw, ht, hs⟩ := c14 l
  obtain ⟨q, k57, n, rfl, hn⟩ := c57 m hm
  have k3 := c83_t3 m
  cases hg : goodT wide ss.length t && goodSS wide ss with
  | false =>
    have k38 := c38_bad wide t ss (by omega) (by omega) hg
    have k56 := c56_bad wide t ss (by omega) (by omega) hg
    simp only [bytesD, tsl, ssl, spV] at k1 k14 k38 k56 k3 ⊢
    simp [e83, F83_c, mcall, k1, hb, k14, k38, k56, k3]
  | true =>
    simp only [Bool.and_eq_true] at hg
    obtain ⟨g1, g2⟩ := hg
    obtain ⟨r, hr, rfl, w1, w2, _, _, hrl⟩ := goodT_tree g1
    have hgs : ∀ s ∈ ss, goodS wide s = true := by
      simp only [goodSS, Bool.and_eq_true, List.all_eq_true] at g2
      exact g2.2
    have hgr := spanS_good (by omega) hw hgs (by omega) r hr
    have k38 := c38_good wide (by omega) hw ss (by omega) r (by omega) hr g1 g2
    have k56 := c56_good wide hw ss (by omega) r (by omega) hr g1 g2
    have k21 := c21 wide (spanS wide ss r)
    rw [hgr] at k21
    have hle : ∀ s ∈ ss, s.1 ≤ s.2 := by
      intro s h
      have := hgs s h
      simp only [goodS, Bool.and_eq_true, decide_eq_true_eq] at this
      exact this.2
    have kt := c83_t2 m wide (by omega) hw ss (by omega) g2 (stL n 0 ss) (stL_len _ _ _) (stL_within _ _ _ hle) r (by omega) hr g1
    have kl := G83_loop m wide r.flat ss (spanS wide ss r) [.code (.kp [(1, .keep), (5, .keep), (6, .keep), (7, .keep), (8, .keep), (12, .keep)] F83_t2), .code (.kp [(1, .keep)] F83_t3)] n k57 (by omega) ss [] [] _ rfl rfl (by simpa using kt)
    unfold G83 at kl
    simp only [bytesD, tsl, ssl, spV] at k1 k14 k38 k56 kl ⊢
    simp at kl
    simp [e83, F83_c, mcall, k1, hb, k14, k38, k56, k21]
    rw [go_inLoop]
    simp
    exact kl
end Go.Proofs.Ytghhjbbildemiaa.AM
