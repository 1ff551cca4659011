/-
From the machine's answer to a row of the claim: arguments that are bytes. The table against the program's own functions. What is told from outside is what the model's entries do. The law FnSpanned answers true for every input, and its arguments read as they did: the given row, for all inputs, with no condition.
Conditions: none beyond those that each theorem states.
-/
import Derived.Test.YtghhjbbildemiaaPt2
import Derived.WalkKit
import Derived.ProofKit
import Derived.OpenShut
import Derived.ChangeOld
import Derived.Below
import Derived.SizedLaws
import Derived.Test.YtghhjbbildemiaaPt3
import Derived.Test.YtghhjbbildemiaaProg
import Derived.KernelRfl
import Derived.Laws.Externs
import Derived.Test.YtghhjbbildemiaaRows
import Derived.Test.YtghhjbbildemiaaPt4
set_option linter.all false
namespace Go.Proofs.Ytghhjbbildemiaa.AM
open Go Go.ChangeShapes Go.WideShapes Go.ChangeAt Go.RowKit

/-- What is kept of the memory that was there. -/
structure Kp (W W' : World) : Prop where
  os : W'.os = W.os
  out : W'.output = W.output
  block : ∀ k, k < W.heap.size → W'.heap[k]? = W.heap[k]?

theorem Kp.frame {W W' : World} (h : Kp W W') (may : MemPlace → Prop) : W.keptBut W' may := by
  refine ⟨h.os, h.out, fun i hi => ?_⟩
  rw [h.block i hi]
  split <;> simp_all
theorem Kp.same {W W' : World} (h : Kp W W') {p : MemPlace} (hp : p.block < W.heap.size) : W.sameAt W' p := by
  cases p with
  | cell b o => exact World.cell?_of_block (w := W) (h.block b hp)
  | map b => exact h.block b hp
theorem Kp.trod {H : Type} {enc : TypeId × Value → H} {P : Program} {t : TypeId} (hl : laidOutB P = true) (hr : P.readableRec t = true) (hrow : t < P.types.size) {W W' : World} {v : Value} {d : DataW H} {ps : List MemPlace}
    (h : DataW.Trod enc P W 0 (fun _ => true) true t v d ps) (hb : Kp W W') (hlt : ∀ x ∈ ps, x.block < W.heap.size) :
    DataW.Trod enc P W' 0 (fun b => decide (b < W.heap.size)) true t v d ps :=
  WideElems.Trod_stays hl hr hrow h (fun x hx => hb.same (hlt x hx)) (fun x hx => by simpa using hlt x hx)

/-- Arguments that nobody writes. -/
abbrev Z0 (W : World) : Nat → Nat := zAll W fun _ => 0
abbrev σ0 : Nat → Option (Nat × Nat) := fun _ => none

theorem sim0 (Φ : Nat → FuncId) (W : World) : Sim Φ W (Z0 W) σ0 [] :=
  sim_all (Φ := Φ) (σ := σ0) (st := []) (Z := fun _ => 0) ⟨fun h o ho => by simp at ho, fun h h' b o o' l _ _ _ => by have := l.lt; simp at this, fun b hb => absurd hb (by simp)⟩ σ0

theorem row_calls {P : Program} {Φ : Nat → FuncId} {C : Orc} (hC : COk P Φ C) {f : Nat} {vs : List AV} {v : AV} (h : C f vs [] = some (v, [])) {fn : Func} (hf : P.funcs[Φ f]? = some fn) (hn : (fn.name != "runtime.NumGoroutine") = true) (hb : fn.body.isSome = true)
    (W : World) (xs : List Value) (hv : VRels Φ W (Z0 W) σ0 [] vs xs) :
    Calls P (Φ f) xs.toArray W fun e W' => ∃ x, e = .returned x ∧ (∃ Z' σ', VRel Φ W' Z' σ' [] v x) ∧ Kp W W' := by
  rcases hC f vs [] v [] h W (Z0 W) σ0 xs (sim0 Φ W) hv with ⟨_, hc⟩ | ⟨x, w', h1, _⟩
  · refine hc.mono fun e W' ⟨x, he, Z', σ', _, hx, E⟩ => ⟨x, he, ⟨Z', σ', hx⟩, E.os, E.out, fun k hk => E.blk k hk ?_⟩
    rintro ⟨h, o, l, _⟩
    have := l.lt
    simp at this
  · rw [callFunc_enter hf hn hb] at h1
    cases h1

theorem bool_of {Φ : Nat → FuncId} {W : World} {Z : Nat → Nat} {σ : Nat → Option (Nat × Nat)} {st : St} {b : Bool} {x : Value} (h : VRel Φ W Z σ st (.d (.bool b)) x) : x = .bool b := by
  cases h with
  | d h => cases h; rfl

/-- Bytes. -/
theorem open_u8 {H : Type} {enc : TypeId × Value → H} {P : Program} {W : World} {base : Nat} {t e : TypeId} {v : Value} {d : DataW H} {ps : List MemPlace} (ht : P.underlying t = some (.slice e)) (he : P.underlying e = some (.int .u8)) (hc : P.cellsOf e = 1) (hz : P.bytesOf e = 1)
    (hval : Value.okWide P W .any base t v) (h : DataW.Trod enc P W 0 (fun _ => true) true t v d ps) {ts : List TypeId} {ds : List (DataW H)} (hsz : (DataW.weightsEach P ts ds).all (· ≤ reachBytes) = true) {j : Nat} (hj : ts[j]? = some t) (hd : ds[j]? = some d) :
    ∃ l : List (BitVec 8), l.length < 4611686018427387904 ∧ ∀ Φ, VRel Φ W (Z0 W) σ0 [] (.d (.sl (l.map fun b => [.u b]))) v := by
  obtain ⟨a, len, cap, rfl⟩ := okWide_slice ht hval
  obtain ⟨fuel, hf⟩ := h
  rcases open_ints ht he hc hf with ⟨hcs, _⟩ | ⟨x, l, c, zs, hcs, _, hl, hm, hz2, hx, hcell, hwz⟩
  · simp [Value.cells] at hcs
    obtain ⟨rfl, rfl, rfl⟩ := hcs
    exact ⟨[], by simp, fun Φ => .d .sl0⟩
  · simp [Value.cells] at hcs
    obtain ⟨rfl, rfl, rfl⟩ := hcs
    have hx1 : d = .slice (lits .u8 (zs.take len)) (lits .u8 (zs.drop len)) := congrArg Prod.fst hx
    have hs := sized_slice hsz hj (hx1 ▸ hd) ht
    rw [hz, Nat.mul_one] at hs
    have hlen : len ≤ zs.length := by simp at hz2; omega
    have hb : len ≤ reachBytes := by
      have : (lits (H := H) .u8 (zs.take len)).length = len := by simp [lits]; omega
      omega
    have hspot : x.spot = none := by
      unfold Value.okWide at hval
      rw [ht] at hval
      simp only [Cell.okWide, ht, Cell.ok, World.has] at hval
      exact hval.2.2.2.1
    obtain ⟨b, off, sp⟩ := x
    simp only at hspot
    subst hspot
    refine ⟨(zs.take len).map fun n => BitVec.ofInt 8 n, by simp; have := reachBytes_lt; omega, fun Φ => .d ?_⟩
    have hbl : ∀ i, i < len → ∃ c el fz, W.heap[b]? = some (.cells c el fz) ∧ c[off + i]? = some (.int .u8 (zs.getD i 0)) := by
      intro i hi
      have := hcell i (by omega)
      have e : (⟨b, off, none⟩ : Addr).add i = ⟨b, off + i, none⟩ := by
        unfold Addr.add; split
        · subst_vars; rfl
        · rfl
      rw [e] at this
      exact cell_iff.1 this
    have hlen2 : (((zs.take len).map fun n => BitVec.ofInt 8 n).map fun b => [D.u b]).length = len := by simp; omega
    have key := DRel.mk_sl (w := W) (Z := Z0 W) (xs := ((zs.take len).map fun n => BitVec.ofInt 8 n).map fun b => [D.u b]) (b := b) (off := off) (cap := cap) (sz := 1) (by rw [hlen2]; exact hl) ?_ ?_
    · rw [hlen2] at key; exact key
    · intro i e' hi
      have hi' : i < len := by
        rcases Nat.lt_or_ge i len with q | q
        · exact q
        · rw [List.getElem?_eq_none (by rw [hlen2]; exact q)] at hi; cases hi
      have hzi : i < zs.length := by omega
      obtain ⟨c, el, fz, h1, h2⟩ := hbl i hi'
      have e1 : e' = [D.u (BitVec.ofInt 8 zs[i])] := by
        simp [List.getElem?_map, List.getElem?_take, hi', hzi] at hi
        exact hi.symm
      subst e1
      refine ⟨rfl, fun j d hj => ?_⟩
      cases j with
      | succ j => simp at hj
      | zero =>
        simp at hj
        subst hj
        have h3 : zs.getD i 0 = zs[i] := by simp [List.getD_eq_getElem?_getD, hzi]
        rw [h3] at h2
        refine ⟨.int .u8 zs[i], cell_iff.2 ⟨c, el, fz, h1, by simpa using h2⟩, ?_⟩
        have hw := hwz zs[i] (List.getElem_mem hzi)
        have hr : 0 ≤ zs[i] ∧ zs[i] < 256 := by
          simp [Lit.wf, IntKind.has, IntKind.min, IntKind.max, IntKind.bits, IntKind.signed] at hw
          omega
        have : zs[i] = ((BitVec.ofInt 8 zs[i]).toNat : Int) := by
          rw [BitVec.toNat_ofInt]; omega
        rw [D.u, ← this]
        exact .int _ _
    · intro i hi
      rw [hlen2] at hi
      obtain ⟨c, el, fz, h1, h2⟩ := hbl i hi
      have h3 := zAll_size (Z := fun _ => 0) h1
      have h4 := (Array.getElem?_eq_some_iff.1 h2).1
      show off + (i + 1) * 1 ≤ zAll W (fun _ => 0) b
      omega
end Go.Proofs.Ytghhjbbildemiaa.AM

namespace Go.Proofs.Ytghhjbbildemiaa.AM
open Go
def phi : List (Nat × Nat) := [(1, 4), (2, 64), (3, 38), (4, 37), (5, 40), (6, 55), (7, 41), (8, 39), (9, 17), (10, 78), (11, 62), (12, 30), (13, 18), (14, 5), (15, 42), (16, 65), (17, 43), (18, 45), (19, 50), (20, 25), (21, 8), (22, 44), (23, 19), (24, 46), (25, 47), (26, 66), (27, 48), (28, 49), (29, 20), (30, 34), (31, 80), (32, 67), (33, 81), (34, 68), (35, 69), (36, 51), (37, 21), (38, 6), (39, 53), (40, 54), (41, 70), (42, 79), (43, 71), (44, 52), (45, 22), (46, 63), (47, 32), (48, 23), (49, 56), (50, 35), (51, 36), (52, 72), (53, 57), (54, 58), (55, 24), (56, 7), (57, 9), (58, 73), (59, 59), (60, 60), (61, 26), (62, 27), (63, 10), (64, 82), (65, 85), (66, 84), (67, 83), (68, 74), (69, 75), (70, 76), (71, 77), (72, 61), (73, 28), (74, 11), (75, 29), (76, 12), (77, 31), (78, 13), (79, 33), (80, 14), (81, 15), (82, 16), (83, 3)]
def Φ (f : Nat) : FuncId := (phi.lookup f).getD 0
theorem m1 : mFunc Try.prog Φ (Φ 1) F1 = true := by kernel_rfl
theorem m2 : mFunc Try.prog Φ (Φ 2) F2 = true := by kernel_rfl
theorem m3 : mFunc Try.prog Φ (Φ 3) F3 = true := by kernel_rfl
theorem m4 : mFunc Try.prog Φ (Φ 4) F4 = true := by kernel_rfl
theorem m5 : mFunc Try.prog Φ (Φ 5) F5 = true := by kernel_rfl
theorem m6 : mFunc Try.prog Φ (Φ 6) F6 = true := by kernel_rfl
theorem m7 : mFunc Try.prog Φ (Φ 7) F7 = true := by kernel_rfl
theorem m8 : mFunc Try.prog Φ (Φ 8) F8 = true := by kernel_rfl
theorem m9 : mFunc Try.prog Φ (Φ 9) F9 = true := by kernel_rfl
theorem m10 : mFunc Try.prog Φ (Φ 10) F10 = true := by kernel_rfl
theorem m11 : mFunc Try.prog Φ (Φ 11) F11 = true := by kernel_rfl
theorem m12 : mFunc Try.prog Φ (Φ 12) F12 = true := by kernel_rfl
theorem m13 : mFunc Try.prog Φ (Φ 13) F13 = true := by kernel_rfl
theorem m14 : mFunc Try.prog Φ (Φ 14) F14 = true := by kernel_rfl
theorem m15 : mFunc Try.prog Φ (Φ 15) F15 = true := by kernel_rfl
theorem m16 : mFunc Try.prog Φ (Φ 16) F16 = true := by kernel_rfl
theorem m17 : mFunc Try.prog Φ (Φ 17) F17 = true := by kernel_rfl
theorem m18 : mFunc Try.prog Φ (Φ 18) F18 = true := by kernel_rfl
theorem m19 : mFunc Try.prog Φ (Φ 19) F19 = true := by kernel_rfl
theorem m20 : mFunc Try.prog Φ (Φ 20) F20 = true := by kernel_rfl
theorem m21 : mFunc Try.prog Φ (Φ 21) F21 = true := by kernel_rfl
theorem m22 : mFunc Try.prog Φ (Φ 22) F22 = true := by kernel_rfl
theorem m23 : mFunc Try.prog Φ (Φ 23) F23 = true := by kernel_rfl
theorem m24 : mFunc Try.prog Φ (Φ 24) F24 = true := by kernel_rfl
theorem m25 : mFunc Try.prog Φ (Φ 25) F25 = true := by kernel_rfl
theorem m26 : mFunc Try.prog Φ (Φ 26) F26 = true := by kernel_rfl
theorem m27 : mFunc Try.prog Φ (Φ 27) F27 = true := by kernel_rfl
theorem m28 : mFunc Try.prog Φ (Φ 28) F28 = true := by kernel_rfl
theorem m29 : mFunc Try.prog Φ (Φ 29) F29 = true := by kernel_rfl
theorem m30 : mFunc Try.prog Φ (Φ 30) F30 = true := by kernel_rfl
theorem m32 : mFunc Try.prog Φ (Φ 32) F32 = true := by kernel_rfl
theorem m33 : mFunc Try.prog Φ (Φ 33) F33 = true := by kernel_rfl
theorem m34 : mFunc Try.prog Φ (Φ 34) F34 = true := by kernel_rfl
theorem m35 : mFunc Try.prog Φ (Φ 35) F35 = true := by kernel_rfl
theorem m36 : mFunc Try.prog Φ (Φ 36) F36 = true := by kernel_rfl
theorem m37 : mFunc Try.prog Φ (Φ 37) F37 = true := by kernel_rfl
theorem m38 : mFunc Try.prog Φ (Φ 38) F38 = true := by kernel_rfl
theorem m39 : mFunc Try.prog Φ (Φ 39) F39 = true := by kernel_rfl
theorem m40 : mFunc Try.prog Φ (Φ 40) F40 = true := by kernel_rfl
theorem m41 : mFunc Try.prog Φ (Φ 41) F41 = true := by kernel_rfl
theorem m42 : mFunc Try.prog Φ (Φ 42) F42 = true := by kernel_rfl
theorem m43 : mFunc Try.prog Φ (Φ 43) F43 = true := by kernel_rfl
theorem m44 : mFunc Try.prog Φ (Φ 44) F44 = true := by kernel_rfl
theorem m45 : mFunc Try.prog Φ (Φ 45) F45 = true := by kernel_rfl
theorem m46 : mFunc Try.prog Φ (Φ 46) F46 = true := by kernel_rfl
theorem m47 : mFunc Try.prog Φ (Φ 47) F47 = true := by kernel_rfl
theorem m48 : mFunc Try.prog Φ (Φ 48) F48 = true := by kernel_rfl
theorem m49 : mFunc Try.prog Φ (Φ 49) F49 = true := by kernel_rfl
theorem m50 : mFunc Try.prog Φ (Φ 50) F50 = true := by kernel_rfl
theorem m51 : mFunc Try.prog Φ (Φ 51) F51 = true := by kernel_rfl
theorem m52 : mFunc Try.prog Φ (Φ 52) F52 = true := by kernel_rfl
theorem m53 : mFunc Try.prog Φ (Φ 53) F53 = true := by kernel_rfl
theorem m54 : mFunc Try.prog Φ (Φ 54) F54 = true := by kernel_rfl
theorem m55 : mFunc Try.prog Φ (Φ 55) F55 = true := by kernel_rfl
theorem m56 : mFunc Try.prog Φ (Φ 56) F56 = true := by kernel_rfl
theorem m57 : mFunc Try.prog Φ (Φ 57) F57 = true := by kernel_rfl
theorem m58 : mFunc Try.prog Φ (Φ 58) F58 = true := by kernel_rfl
theorem m59 : mFunc Try.prog Φ (Φ 59) F59 = true := by kernel_rfl
theorem m60 : mFunc Try.prog Φ (Φ 60) F60 = true := by kernel_rfl
theorem m61 : mFunc Try.prog Φ (Φ 61) F61 = true := by kernel_rfl
theorem m62 : mFunc Try.prog Φ (Φ 62) F62 = true := by kernel_rfl
theorem m63 : mFunc Try.prog Φ (Φ 63) F63 = true := by kernel_rfl
theorem m64 : mFunc Try.prog Φ (Φ 64) F64 = true := by kernel_rfl
theorem m65 : mFunc Try.prog Φ (Φ 65) F65 = true := by kernel_rfl
theorem m66 : mFunc Try.prog Φ (Φ 66) F66 = true := by kernel_rfl
theorem m67 : mFunc Try.prog Φ (Φ 67) F67 = true := by kernel_rfl
theorem m68 : mFunc Try.prog Φ (Φ 68) F68 = true := by kernel_rfl
theorem m69 : mFunc Try.prog Φ (Φ 69) F69 = true := by kernel_rfl
theorem m70 : mFunc Try.prog Φ (Φ 70) F70 = true := by kernel_rfl
theorem m71 : mFunc Try.prog Φ (Φ 71) F71 = true := by kernel_rfl
theorem m72 : mFunc Try.prog Φ (Φ 72) F72 = true := by kernel_rfl
theorem m73 : mFunc Try.prog Φ (Φ 73) F73 = true := by kernel_rfl
theorem m74 : mFunc Try.prog Φ (Φ 74) F74 = true := by kernel_rfl
theorem m75 : mFunc Try.prog Φ (Φ 75) F75 = true := by kernel_rfl
theorem m76 : mFunc Try.prog Φ (Φ 76) F76 = true := by kernel_rfl
theorem m77 : mFunc Try.prog Φ (Φ 77) F77 = true := by kernel_rfl
theorem m78 : mFunc Try.prog Φ (Φ 78) F78 = true := by kernel_rfl
theorem m79 : mFunc Try.prog Φ (Φ 79) F79 = true := by kernel_rfl
theorem m80 : mFunc Try.prog Φ (Φ 80) F80 = true := by kernel_rfl
theorem m81 : mFunc Try.prog Φ (Φ 81) F81 = true := by kernel_rfl
theorem m82 : mFunc Try.prog Φ (Φ 82) F82 = true := by kernel_rfl
theorem m83 : mFunc Try.prog Φ (Φ 83) F83 = true := by kernel_rfl
theorem tok : TOk Try.prog Φ T := by
  have h : ∀ p ∈ tbl, mFunc Try.prog Φ (Φ p.1) p.2 = true := by
    simp only [tbl, List.forall_mem_cons]
    exact ⟨m1, m2, m3, m4, m5, m6, m7, m8, m9, m10, m11, m12, m13, m14, m15, m16, m17, m18, m19, m20, m21, m22, m23, m24, m25, m26, m27, m28, m29, m30, m32, m33, m34, m35, m36, m37, m38, m39, m40, m41, m42, m43, m44, m45, m46, m47, m48, m49, m50, m51, m52, m53, m54, m55, m56, m57, m58, m59, m60, m61, m62, m63, m64, m65, m66, m67, m68, m69, m70, m71, m72, m73, m74, m75, m76, m77, m78, m79, m80, m81, m82, m83, fun p h => by cases h⟩
  intro f F hF
  have : ∀ l : List (Nat × AFunc), l.lookup f = some F → (f, F) ∈ l := by
    intro l
    induction l with
    | nil => intro h; cases h
    | cons p l ih =>
      intro h
      obtain ⟨k, G⟩ := p
      simp only [List.lookup] at h
      split at h
      · rename_i e; cases h; have := eq_of_beq e; subst this; exact List.mem_cons_self
      · exact List.mem_cons_of_mem _ (ih h)
  exact h _ (this _ hF)
end Go.Proofs.Ytghhjbbildemiaa.AM

namespace Go.Proofs.Ytghhjbbildemiaa.AM
open Go

theorem asW_inv {d : D} {n : Nat} (h : asW d = some n) : d = .int .u64 n := by
  unfold asW at h
  split at h
  · split at h
    · cases h; congr 1; omega
    · cases h
  · cases h
theorem asBit_inv {d : D} {n : Nat} (h : asBit d = some n) : d = .int .u64 n ∧ n ≤ 1 := by
  unfold asBit at h
  split at h
  · split at h
    · cases h; subst_vars; exact ⟨rfl, by omega⟩
    · split at h
      · cases h; subst_vars; exact ⟨rfl, by omega⟩
      · cases h
  · cases h

theorem add64_run (x y z : Nat) (hz : z ≤ 1) (w : World) : (callFunc (Φ 31) #[.int .u64 x, .int .u64 y, .int .u64 z]).run Try.prog w =
    .ok (.value (.tuple #[.int .u64 ((x + y + z) % 18446744073709551616 : Nat), .int .u64 ((x + y + z) / 18446744073709551616 : Nat)])) w := by
  have h := run_callFunc_extern (P := Try.prog) (f := Φ 31) (fn := Try.f80) (e := add64Entry) Try.func80 (by kernel_rfl) (by kernel_rfl) (by kernel_rfl) (by kernel_rfl) #[.int .u64 x, .int .u64 y, .int .u64 z] w
  rw [h, run_add64 x y z (by omega) (by omega) (by omega) (by omega)]
  rfl

theorem xok : COk Try.prog Φ X := by
  intro f vs st v st' h w Z σ xs S hv
  unfold X at h
  split at h
  · rename_i hf
    subst hf
    split at h
    · rename_i a b c
      split at h
      · rename_i x y z h1 h2 h3
        cases h
        obtain ⟨u1, xs, rfl, r1, hv⟩ := hv.cons_inv
        obtain ⟨u2, xs, rfl, r2, hv⟩ := hv.cons_inv
        obtain ⟨u3, xs, rfl, r3, hv⟩ := hv.cons_inv
        obtain rfl := hv.nil_inv
        have e1 := asW_inv h1
        have e2 := asW_inv h2
        obtain ⟨e3, hz⟩ := asBit_inv h3
        subst e1 e2 e3
        cases r1 with | d r1 => ?_
        cases r2 with | d r2 => ?_
        cases r3 with | d r3 => ?_
        cases r1; cases r2; cases r3
        refine .inr ⟨_, w, add64_run x y z hz w, Z, σ, S, .tup rfl ?_, Ext.refl _ _ _ _ _⟩
        intro i c v q1 q2
        match i with
        | 0 => simp at q1 q2; subst q1 q2; exact .d (.int _ _)
        | 1 => simp at q1 q2; subst q1 q2; exact .d (.int _ _)
        | i + 2 => simp at q1
      · cases h
    · cases h
  · cases h
end Go.Proofs.Ytghhjbbildemiaa.AM

namespace Go.Proofs.Ytghhjbbildemiaa.fnSpanned
open Go Go.ChangeShapes Go.WideShapes Go.ChangeAt Go.RowKit Go.Proofs.Ytghhjbbildemiaa.AM
theorem own : ownKnob Try.prog.godebug = none := by kernel_rfl
theorem laidOut : laidOutB Try.prog = true := by kernel_rfl
set_option maxRecDepth 100000 in
theorem lifted (os : Os) (started : os.Started) (H : Type) (enc : TypeId × Value → H) :
    ReturnsInHanded {} Try.checked os 3 .any (Rows.fnSpannedSpec.pre6 enc Try.prog Try.f3 Rows.fnSpannedRow.domain false) (Rows.fnSpannedSpec.post enc Try.prog Try.f3 false true false false) := by
  refine returnsInHanded_of_change_sized (C := Try.checked) own started (by kernel_rfl) Try.func3
    (ChangeSpec.witness6 (enc := enc) (C := Try.checked) false ⟨#[], #[.slice none 0 0, .slice none 0 0], []⟩ 8 (by kernel_rfl) (by kernel_rfl) (by kernel_rfl) (by kernel_rfl)) ?_
  intro W base args ds gs before hval0 hW hcnd hsz0 _
  have hsz : (DataW.weightsEach Try.prog (Try.f3.params.toList ++ Rows.fnSpannedSpec.plain.varTypes Try.prog) (ds ++ gs)).all (· ≤ reachBytes) = true := hsz0
  have hval : ∀ (j : Nat) t v, Try.f3.params[j]? = some t → args[j]? = some v → Value.okWide Try.prog W .any base t v := hval0
  have hW' := hW
  obtain ⟨p, q, hA0, hV, rfl, hfz, hnd⟩ := hW
  have hA : DataW.TrodAll enc Try.prog W 0 (fun _ => true) true Try.f3.params.toList args.toList ds p := hA0
  rw [Try.params3] at hA hval hsz
  obtain ⟨v0, v1, d0, d1, p0, p1, rfl, rfl, rfl, h0, h1⟩ := trodAll_two hA
  obtain ⟨rfl, rfl⟩ := trodVars_none hV
  obtain ⟨l0, b0, r0⟩ := open_u8 Try.underlying22 Try.underlying5 (by kernel_rfl) (by kernel_rfl) (hval 0 22 v0 rfl rfl) h0 hsz (j := 0) rfl rfl
  obtain ⟨l1, b1, r1⟩ := open_u8 Try.underlying22 Try.underlying5 (by kernel_rfl) (by kernel_rfl) (hval 1 22 v1 rfl rfl) h1 hsz (j := 1) rfl rfl
  have lt0 : ∀ x ∈ p0, x.block < W.heap.size := by obtain ⟨m, hm⟩ := h0; exact DataW.trod_lt m _ _ _ hm
  have lt1 : ∀ x ∈ p1, x.block < W.heap.size := by obtain ⟨m, hm⟩ := h1; exact DataW.trod_lt m _ _ _ hm
  clear hA0 hval0 hsz0 hsz
  have hc := row_calls (acall_ok AM.T AM.X AM.tok AM.xok) (f := 83) (c83 l0 l1 b0 b1) (fn := Try.f3) Try.func3 (by kernel_rfl) (by kernel_rfl) W [v0, v1] (.cons (r0 Φ) (.cons (r1 Φ) .nil))
  refine Calls.mono (P := Try.prog) (f := 3) hc fun e W' ⟨x, he, ⟨Z', σ', hx⟩, kp⟩ => ?_
  have hx := bool_of hx
  subst he hx
  exact ⟨_, rfl, _, _, _, [], _, [], hW', trodAll_mk1 (shut_bool Try.underlying4 _), (trodAll_cons_mk (kp.trod laidOut (by kernel_rfl) (of_decide_eq_true (by kernel_rfl)) h0 lt0) (trodAll_cons_mk (kp.trod laidOut (by kernel_rfl) (of_decide_eq_true (by kernel_rfl)) h1 lt1) trodAll_mk0)), rfl, kp.frame _, fun h => by cases h⟩
theorem over : Rows.fnSpannedRow.holds Try.pinned (OpenSpec.ofChange Rows.fnSpannedSpec) :=
  OpenClaim.holds_of_wide 3 Try.f3 rfl rfl rfl rfl rfl rfl rfl ⟨rfl, rfl, rfl, rfl, rfl⟩ rfl rfl rfl rfl rfl (by kernel_rfl) Try.func3 (by kernel_rfl)
    (of_decide_eq_true (by kernel_rfl)) (by unfold Func.isWrapper; first | (rw [if_pos (by decide +kernel)]; kernel_rfl) | (rw [if_neg (by decide +kernel)]; exact ⟨rfl, rfl⟩))
    (fun os started H enc _ => lifted os started H enc)
end Go.Proofs.Ytghhjbbildemiaa.fnSpanned
namespace Go.Proofs.Ytghhjbbildemiaa
/-- The row. -/
theorem fnSpanned_holds : Rows.FnSpannedSaid := fnSpanned.over
#print axioms fnSpanned_holds
end Go.Proofs.Ytghhjbbildemiaa
