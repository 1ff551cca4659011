/-
From the machine's answer to a row of the claim: arguments that are bytes. The table against the program's own functions. What is told from outside is what the program does. The law FnSettled answers true for every input, and its arguments read as they did: the given row, for all inputs, with no condition.
Conditions: none beyond those that each theorem states.
-/
import Derived.Test.YtplgdddfhjpojaaGreatPt3
import Derived.WalkKit
import Derived.ProofKit
import Derived.OpenShut
import Derived.ChangeOld
import Derived.Below
import Derived.SizedLaws
import Derived.Test.YtplgdddfhjpojaaGreatPt4
import Derived.Test.YtplgdddfhjpojaaGreatProg
import Derived.KernelRfl
import Derived.Laws.Externs
import Derived.Test.YtplgdddfhjpojaaGreatRows
import Derived.Test.YtplgdddfhjpojaaGreatPt5
set_option linter.all false
namespace Go.Proofs.YtplgdddfhjpojaaGreat.AM
open Go Go.ChangeShapes Go.WideShapes Go.ChangeAt Go.RowKit

/-- What is kept of the memory that was there. -/
structure Kp (W W' : World) : Prop where
  os : W'.os = W.os
  out : W'.output = W.output
  block : ∀ k, k < W.heap.size → W'.heap[k]? = W.heap[k]?

theorem Kp.frame {W W' : World} (h : Kp W W') (may : MemPlace → Prop) : W.keptBut W' may := by
  refine ⟨h.os, h.out, fun i hi => ?_⟩
  rw [h.block i hi]
  split <;> simp_all
theorem Kp.same {W W' : World} (h : Kp W W') {p : MemPlace} (hp : p.block < W.heap.size) : W.sameAt W' p := by
  cases p with
  | cell b o => exact World.cell?_of_block (w := W) (h.block b hp)
  | map b => exact h.block b hp
theorem Kp.trod {H : Type} {enc : TypeId × Value → H} {P : Program} {t : TypeId} (hl : laidOutB P = true) (hr : P.readableRec t = true) (hrow : t < P.types.size) {W W' : World} {v : Value} {d : DataW H} {ps : List MemPlace}
    (h : DataW.Trod enc P W 0 (fun _ => true) true t v d ps) (hb : Kp W W') (hlt : ∀ x ∈ ps, x.block < W.heap.size) :
    DataW.Trod enc P W' 0 (fun b => decide (b < W.heap.size)) true t v d ps :=
  WideElems.Trod_stays hl hr hrow h (fun x hx => hb.same (hlt x hx)) (fun x hx => by simpa using hlt x hx)

/-- Arguments that nobody writes. -/
abbrev Z0 (W : World) : Nat → Nat := zAll W fun _ => 0
abbrev σ0 : Nat → Option (Nat × Nat) := fun _ => none

theorem sim0 (Φ : Nat → FuncId) (W : World) : Sim Φ W (Z0 W) σ0 [] :=
  sim_all (Φ := Φ) (σ := σ0) (st := []) (Z := fun _ => 0) ⟨fun h o ho => by simp at ho, fun h h' b o o' l _ _ _ => by have := l.lt; simp at this, fun b hb => absurd hb (by simp)⟩ σ0

theorem row_calls {P : Program} {Φ : Nat → FuncId} {C : Orc} (hC : COk P Φ C) {f : Nat} {vs : List AV} {v : AV} (h : C f vs [] = some (v, [])) {fn : Func} (hf : P.funcs[Φ f]? = some fn) (hn : (fn.name != "runtime.NumGoroutine") = true) (hb : fn.body.isSome = true)
    (W : World) (xs : List Value) (hv : VRels Φ W (Z0 W) σ0 [] vs xs) :
    Calls P (Φ f) xs.toArray W fun e W' => ∃ x, e = .returned x ∧ (∃ Z' σ', VRel Φ W' Z' σ' [] v x) ∧ Kp W W' := by
  rcases hC f vs [] v [] h W (Z0 W) σ0 xs (sim0 Φ W) hv with ⟨_, hc⟩ | ⟨x, w', h1, _⟩
  · refine hc.mono fun e W' ⟨x, he, Z', σ', _, hx, E⟩ => ⟨x, he, ⟨Z', σ', hx⟩, E.os, E.out, fun k hk => E.blk k hk ?_⟩
    rintro ⟨h, o, l, _⟩
    have := l.lt
    simp at this
  · rw [callFunc_enter hf hn hb] at h1
    cases h1

theorem bool_of {Φ : Nat → FuncId} {W : World} {Z : Nat → Nat} {σ : Nat → Option (Nat × Nat)} {st : St} {b : Bool} {x : Value} (h : VRel Φ W Z σ st (.d (.bool b)) x) : x = .bool b := by
  cases h with
  | d h => cases h; rfl

/-- Bytes. -/
theorem open_u8 {H : Type} {enc : TypeId × Value → H} {P : Program} {W : World} {base : Nat} {t e : TypeId} {v : Value} {d : DataW H} {ps : List MemPlace} (ht : P.underlying t = some (.slice e)) (he : P.underlying e = some (.int .u8)) (hc : P.cellsOf e = 1) (hz : P.bytesOf e = 1)
    (hval : Value.okWide P W .any base t v) (h : DataW.Trod enc P W 0 (fun _ => true) true t v d ps) {ts : List TypeId} {ds : List (DataW H)} (hsz : (DataW.weightsEach P ts ds).all (· ≤ reachBytes) = true) {j : Nat} (hj : ts[j]? = some t) (hd : ds[j]? = some d) :
    ∃ l : List (BitVec 8), l.length < 4611686018427387904 ∧ ∀ Φ, VRel Φ W (Z0 W) σ0 [] (.d (.sl (l.map fun b => [.u b]))) v := by
  obtain ⟨a, len, cap, rfl⟩ := okWide_slice ht hval
  obtain ⟨fuel, hf⟩ := h
  rcases open_ints ht he hc hf with ⟨hcs, _⟩ | ⟨x, l, c, zs, hcs, _, hl, hm, hz2, hx, hcell, hwz⟩
  · simp [Value.cells] at hcs
    obtain ⟨rfl, rfl, rfl⟩ := hcs
    exact ⟨[], by simp, fun Φ => .d .sl0⟩
  · simp [Value.cells] at hcs
    obtain ⟨rfl, rfl, rfl⟩ := hcs
    have hx1 : d = .slice (lits .u8 (zs.take len)) (lits .u8 (zs.drop len)) := congrArg Prod.fst hx
    have hs := sized_slice hsz hj (hx1 ▸ hd) ht
    rw [hz, Nat.mul_one] at hs
    have hlen : len ≤ zs.length := by simp at hz2; omega
    have hb : len ≤ reachBytes := by
      have : (lits (H := H) .u8 (zs.take len)).length = len := by simp [lits]; omega
      omega
    have hspot : x.spot = none := by
      unfold Value.okWide at hval
      rw [ht] at hval
      simp only [Cell.okWide, ht, Cell.ok, World.has] at hval
      exact hval.2.2.2.1
    obtain ⟨b, off, sp⟩ := x
    simp only at hspot
    subst hspot
    refine ⟨(zs.take len).map fun n => BitVec.ofInt 8 n, by simp; have := reachBytes_lt; omega, fun Φ => .d ?_⟩
    have hbl : ∀ i, i < len → ∃ c el fz, W.heap[b]? = some (.cells c el fz) ∧ c[off + i]? = some (.int .u8 (zs.getD i 0)) := by
      intro i hi
      have := hcell i (by omega)
      have e : (⟨b, off, none⟩ : Addr).add i = ⟨b, off + i, none⟩ := by
        unfold Addr.add; split
        · subst_vars; rfl
        · rfl
      rw [e] at this
      exact cell_iff.1 this
    have hlen2 : (((zs.take len).map fun n => BitVec.ofInt 8 n).map fun b => [D.u b]).length = len := by simp; omega
    have key := DRel.mk_sl (w := W) (Z := Z0 W) (xs := ((zs.take len).map fun n => BitVec.ofInt 8 n).map fun b => [D.u b]) (b := b) (off := off) (cap := cap) (sz := 1) (by rw [hlen2]; exact hl) ?_ ?_
    · rw [hlen2] at key; exact key
    · intro i e' hi
      have hi' : i < len := by
        rcases Nat.lt_or_ge i len with q | q
        · exact q
        · rw [List.getElem?_eq_none (by rw [hlen2]; exact q)] at hi; cases hi
      have hzi : i < zs.length := by omega
      obtain ⟨c, el, fz, h1, h2⟩ := hbl i hi'
      have e1 : e' = [D.u (BitVec.ofInt 8 zs[i])] := by
        simp [List.getElem?_map, List.getElem?_take, hi', hzi] at hi
        exact hi.symm
      subst e1
      refine ⟨rfl, fun j d hj => ?_⟩
      cases j with
      | succ j => simp at hj
      | zero =>
        simp at hj
        subst hj
        have h3 : zs.getD i 0 = zs[i] := by simp [List.getD_eq_getElem?_getD, hzi]
        rw [h3] at h2
        refine ⟨.int .u8 zs[i], cell_iff.2 ⟨c, el, fz, h1, by simpa using h2⟩, ?_⟩
        have hw := hwz zs[i] (List.getElem_mem hzi)
        have hr : 0 ≤ zs[i] ∧ zs[i] < 256 := by
          simp [Lit.wf, IntKind.has, IntKind.min, IntKind.max, IntKind.bits, IntKind.signed] at hw
          omega
        have : zs[i] = ((BitVec.ofInt 8 zs[i]).toNat : Int) := by
          rw [BitVec.toNat_ofInt]; omega
        rw [D.u, ← this]
        exact .int _ _
    · intro i hi
      rw [hlen2] at hi
      obtain ⟨c, el, fz, h1, h2⟩ := hbl i hi
      have h3 := zAll_size (Z := fun _ => 0) h1
      have h4 := (Array.getElem?_eq_some_iff.1 h2).1
      show off + (i + 1) * 1 ≤ zAll W (fun _ => 0) b
      omega
end Go.Proofs.YtplgdddfhjpojaaGreat.AM

namespace Go.Proofs.YtplgdddfhjpojaaGreat.AM
open Go
def phi : List (Nat × Nat) := [(1, 4), (2, 59), (3, 35), (4, 19), (5, 37), (6, 74), (7, 86), (8, 63), (84, 64), (85, 41), (86, 40), (87, 17), (10, 83), (11, 60), (12, 42), (13, 18), (88, 5), (15, 51), (16, 81), (17, 52), (18, 55), (19, 69), (20, 58), (21, 54), (22, 53), (23, 31), (24, 106), (25, 107), (26, 111), (27, 108), (28, 109), (29, 99), (89, 100), (90, 87), (91, 65), (92, 88), (93, 66), (94, 68), (95, 67), (96, 43), (97, 20), (98, 21), (31, 101), (32, 89), (33, 102), (34, 90), (30, 91), (35, 92), (36, 70), (37, 44), (77, 45), (99, 22), (100, 23), (101, 6), (39, 25), (41, 85), (42, 62), (46, 84), (47, 61), (48, 38), (40, 73), (43, 103), (44, 93), (102, 71), (103, 72), (104, 46), (105, 24), (49, 75), (51, 78), (50, 79), (52, 94), (53, 76), (54, 77), (55, 47), (79, 48), (106, 26), (107, 7), (108, 8), (109, 9), (57, 10), (58, 82), (59, 56), (60, 57), (61, 32), (110, 27), (111, 28), (64, 104), (65, 112), (66, 110), (67, 105), (68, 95), (69, 96), (70, 97), (71, 98), (72, 80), (73, 49), (112, 29), (113, 50), (114, 30), (115, 11), (62, 33), (63, 12), (116, 13), (117, 14), (75, 34), (118, 36), (119, 15), (120, 39), (121, 16), (122, 3)]
def Φ (f : Nat) : FuncId := (phi.lookup f).getD 0
theorem m1 : mFunc Tryz.prog Φ (Φ 1) F1 = true := by kernel_rfl
theorem m2 : mFunc Tryz.prog Φ (Φ 2) F2 = true := by kernel_rfl
theorem m3 : mFunc Tryz.prog Φ (Φ 3) F3 = true := by kernel_rfl
theorem m4 : mFunc Tryz.prog Φ (Φ 4) F4 = true := by kernel_rfl
theorem m5 : mFunc Tryz.prog Φ (Φ 5) F5 = true := by kernel_rfl
theorem m6 : mFunc Tryz.prog Φ (Φ 6) F6 = true := by kernel_rfl
theorem m7 : mFunc Tryz.prog Φ (Φ 7) F7 = true := by kernel_rfl
theorem m8 : mFunc Tryz.prog Φ (Φ 8) F8 = true := by kernel_rfl
theorem m84 : mFunc Tryz.prog Φ (Φ 84) F84 = true := by kernel_rfl
theorem m85 : mFunc Tryz.prog Φ (Φ 85) F85 = true := by kernel_rfl
theorem m86 : mFunc Tryz.prog Φ (Φ 86) F86 = true := by kernel_rfl
theorem m87 : mFunc Tryz.prog Φ (Φ 87) F87 = true := by kernel_rfl
theorem m10 : mFunc Tryz.prog Φ (Φ 10) F10 = true := by kernel_rfl
theorem m11 : mFunc Tryz.prog Φ (Φ 11) F11 = true := by kernel_rfl
theorem m12 : mFunc Tryz.prog Φ (Φ 12) F12 = true := by kernel_rfl
theorem m13 : mFunc Tryz.prog Φ (Φ 13) F13 = true := by kernel_rfl
theorem m88 : mFunc Tryz.prog Φ (Φ 88) F88 = true := by kernel_rfl
theorem m15 : mFunc Tryz.prog Φ (Φ 15) F15 = true := by kernel_rfl
theorem m16 : mFunc Tryz.prog Φ (Φ 16) F16 = true := by kernel_rfl
theorem m17 : mFunc Tryz.prog Φ (Φ 17) F17 = true := by kernel_rfl
theorem m18 : mFunc Tryz.prog Φ (Φ 18) F18 = true := by kernel_rfl
theorem m19 : mFunc Tryz.prog Φ (Φ 19) F19 = true := by kernel_rfl
theorem m20 : mFunc Tryz.prog Φ (Φ 20) F20 = true := by kernel_rfl
theorem m21 : mFunc Tryz.prog Φ (Φ 21) F21 = true := by kernel_rfl
theorem m22 : mFunc Tryz.prog Φ (Φ 22) F22 = true := by kernel_rfl
theorem m23 : mFunc Tryz.prog Φ (Φ 23) F23 = true := by kernel_rfl
theorem m24 : mFunc Tryz.prog Φ (Φ 24) F24 = true := by kernel_rfl
theorem m25 : mFunc Tryz.prog Φ (Φ 25) F25 = true := by kernel_rfl
theorem m26 : mFunc Tryz.prog Φ (Φ 26) F26 = true := by kernel_rfl
theorem m27 : mFunc Tryz.prog Φ (Φ 27) F27 = true := by kernel_rfl
theorem m28 : mFunc Tryz.prog Φ (Φ 28) F28 = true := by kernel_rfl
theorem m29 : mFunc Tryz.prog Φ (Φ 29) F29 = true := by kernel_rfl
theorem m89 : mFunc Tryz.prog Φ (Φ 89) F89 = true := by kernel_rfl
theorem m90 : mFunc Tryz.prog Φ (Φ 90) F90 = true := by kernel_rfl
theorem m91 : mFunc Tryz.prog Φ (Φ 91) F91 = true := by kernel_rfl
theorem m92 : mFunc Tryz.prog Φ (Φ 92) F92 = true := by kernel_rfl
theorem m93 : mFunc Tryz.prog Φ (Φ 93) F93 = true := by kernel_rfl
theorem m94 : mFunc Tryz.prog Φ (Φ 94) F94 = true := by kernel_rfl
theorem m95 : mFunc Tryz.prog Φ (Φ 95) F95 = true := by kernel_rfl
theorem m96 : mFunc Tryz.prog Φ (Φ 96) F96 = true := by kernel_rfl
theorem m97 : mFunc Tryz.prog Φ (Φ 97) F97 = true := by kernel_rfl
theorem m32 : mFunc Tryz.prog Φ (Φ 32) F32 = true := by kernel_rfl
theorem m33 : mFunc Tryz.prog Φ (Φ 33) F33 = true := by kernel_rfl
theorem m34 : mFunc Tryz.prog Φ (Φ 34) F34 = true := by kernel_rfl
theorem m30 : mFunc Tryz.prog Φ (Φ 30) F30 = true := by kernel_rfl
theorem m35 : mFunc Tryz.prog Φ (Φ 35) F35 = true := by kernel_rfl
theorem m36 : mFunc Tryz.prog Φ (Φ 36) F36 = true := by kernel_rfl
theorem m37 : mFunc Tryz.prog Φ (Φ 37) F37 = true := by kernel_rfl
theorem m77 : mFunc Tryz.prog Φ (Φ 77) F77 = true := by kernel_rfl
theorem m99 : mFunc Tryz.prog Φ (Φ 99) F99 = true := by kernel_rfl
theorem m100 : mFunc Tryz.prog Φ (Φ 100) F100 = true := by kernel_rfl
theorem m101 : mFunc Tryz.prog Φ (Φ 101) F101 = true := by kernel_rfl
theorem m39 : mFunc Tryz.prog Φ (Φ 39) F39 = true := by kernel_rfl
theorem m41 : mFunc Tryz.prog Φ (Φ 41) F41 = true := by kernel_rfl
theorem m42 : mFunc Tryz.prog Φ (Φ 42) F42 = true := by kernel_rfl
theorem m46 : mFunc Tryz.prog Φ (Φ 46) F46 = true := by kernel_rfl
theorem m47 : mFunc Tryz.prog Φ (Φ 47) F47 = true := by kernel_rfl
theorem m48 : mFunc Tryz.prog Φ (Φ 48) F48 = true := by kernel_rfl
theorem m40 : mFunc Tryz.prog Φ (Φ 40) F40 = true := by kernel_rfl
theorem m43 : mFunc Tryz.prog Φ (Φ 43) F43 = true := by kernel_rfl
theorem m44 : mFunc Tryz.prog Φ (Φ 44) F44 = true := by kernel_rfl
theorem m102 : mFunc Tryz.prog Φ (Φ 102) F102 = true := by kernel_rfl
theorem m103 : mFunc Tryz.prog Φ (Φ 103) F103 = true := by kernel_rfl
theorem m104 : mFunc Tryz.prog Φ (Φ 104) F104 = true := by kernel_rfl
theorem m105 : mFunc Tryz.prog Φ (Φ 105) F105 = true := by kernel_rfl
theorem m49 : mFunc Tryz.prog Φ (Φ 49) F49 = true := by kernel_rfl
theorem m51 : mFunc Tryz.prog Φ (Φ 51) F51 = true := by kernel_rfl
theorem m50 : mFunc Tryz.prog Φ (Φ 50) F50 = true := by kernel_rfl
theorem m52 : mFunc Tryz.prog Φ (Φ 52) F52 = true := by kernel_rfl
theorem m53 : mFunc Tryz.prog Φ (Φ 53) F53 = true := by kernel_rfl
theorem m54 : mFunc Tryz.prog Φ (Φ 54) F54 = true := by kernel_rfl
theorem m55 : mFunc Tryz.prog Φ (Φ 55) F55 = true := by kernel_rfl
theorem m79 : mFunc Tryz.prog Φ (Φ 79) F79 = true := by kernel_rfl
theorem m106 : mFunc Tryz.prog Φ (Φ 106) F106 = true := by kernel_rfl
theorem m107 : mFunc Tryz.prog Φ (Φ 107) F107 = true := by kernel_rfl
theorem m108 : mFunc Tryz.prog Φ (Φ 108) F108 = true := by kernel_rfl
theorem m109 : mFunc Tryz.prog Φ (Φ 109) F109 = true := by kernel_rfl
theorem m57 : mFunc Tryz.prog Φ (Φ 57) F57 = true := by kernel_rfl
theorem m58 : mFunc Tryz.prog Φ (Φ 58) F58 = true := by kernel_rfl
theorem m59 : mFunc Tryz.prog Φ (Φ 59) F59 = true := by kernel_rfl
theorem m60 : mFunc Tryz.prog Φ (Φ 60) F60 = true := by kernel_rfl
theorem m61 : mFunc Tryz.prog Φ (Φ 61) F61 = true := by kernel_rfl
theorem m110 : mFunc Tryz.prog Φ (Φ 110) F110 = true := by kernel_rfl
theorem m111 : mFunc Tryz.prog Φ (Φ 111) F111 = true := by kernel_rfl
theorem m64 : mFunc Tryz.prog Φ (Φ 64) F64 = true := by kernel_rfl
theorem m65 : mFunc Tryz.prog Φ (Φ 65) F65 = true := by kernel_rfl
theorem m66 : mFunc Tryz.prog Φ (Φ 66) F66 = true := by kernel_rfl
theorem m67 : mFunc Tryz.prog Φ (Φ 67) F67 = true := by kernel_rfl
theorem m68 : mFunc Tryz.prog Φ (Φ 68) F68 = true := by kernel_rfl
theorem m69 : mFunc Tryz.prog Φ (Φ 69) F69 = true := by kernel_rfl
theorem m70 : mFunc Tryz.prog Φ (Φ 70) F70 = true := by kernel_rfl
theorem m71 : mFunc Tryz.prog Φ (Φ 71) F71 = true := by kernel_rfl
theorem m72 : mFunc Tryz.prog Φ (Φ 72) F72 = true := by kernel_rfl
theorem m73 : mFunc Tryz.prog Φ (Φ 73) F73 = true := by kernel_rfl
theorem m112 : mFunc Tryz.prog Φ (Φ 112) F112 = true := by kernel_rfl
theorem m114 : mFunc Tryz.prog Φ (Φ 114) F114 = true := by kernel_rfl
theorem m115 : mFunc Tryz.prog Φ (Φ 115) F115 = true := by kernel_rfl
theorem m62 : mFunc Tryz.prog Φ (Φ 62) F62 = true := by kernel_rfl
theorem m63 : mFunc Tryz.prog Φ (Φ 63) F63 = true := by kernel_rfl
theorem m116 : mFunc Tryz.prog Φ (Φ 116) F116 = true := by kernel_rfl
theorem m117 : mFunc Tryz.prog Φ (Φ 117) F117 = true := by kernel_rfl
theorem m75 : mFunc Tryz.prog Φ (Φ 75) F75 = true := by kernel_rfl
theorem m118 : mFunc Tryz.prog Φ (Φ 118) F118 = true := by kernel_rfl
theorem m119 : mFunc Tryz.prog Φ (Φ 119) F119 = true := by kernel_rfl
theorem m120 : mFunc Tryz.prog Φ (Φ 120) F120 = true := by kernel_rfl
theorem m121 : mFunc Tryz.prog Φ (Φ 121) F121 = true := by kernel_rfl
theorem m122 : mFunc Tryz.prog Φ (Φ 122) F122 = true := by kernel_rfl
theorem lookup_mem {β : Type} (f : Nat) (F : β) : ∀ l : List (Nat × β), l.lookup f = some F → (f, F) ∈ l := by
  intro l
  induction l with
  | nil => intro h; cases h
  | cons p l ih =>
    intro h
    obtain ⟨k, G⟩ := p
    simp only [List.lookup] at h
    split at h
    · rename_i e; cases h; have := eq_of_beq e; subst this; exact List.mem_cons_self
    · exact List.mem_cons_of_mem _ (ih h)
set_option maxRecDepth 100000 in
theorem tok : TOk Tryz.prog Φ T := by
  have h : ∀ p ∈ tbl, mFunc Tryz.prog Φ (Φ p.1) p.2 = true := by
    simp only [tbl, List.forall_mem_cons]
    exact ⟨m1, m2, m3, m4, m5, m6, m7, m8, m84, m85, m86, m87, m10, m11, m12, m13, m88, m15, m16, m17, m18, m19, m20, m21, m22, m23, m24, m25, m26, m27, m28, m29, m89, m90, m91, m92, m93, m94, m95, m96, m97, m32, m33, m34, m30, m35, m36, m37, m77, m99, m100, m101, m39, m41, m42, m46, m47, m48, m40, m43, m44, m102, m103, m104, m105, m49, m51, m50, m52, m53, m54, m55, m79, m106, m107, m108, m109, m57, m58, m59, m60, m61, m110, m111, m64, m65, m66, m67, m68, m69, m70, m71, m72, m73, m112, m114, m115, m62, m63, m116, m117, m75, m118, m119, m120, m121, m122, fun p h => by cases h⟩
  intro f F hF
  exact h _ (lookup_mem _ _ _ hF)
end Go.Proofs.YtplgdddfhjpojaaGreat.AM

namespace Go.Proofs.YtplgdddfhjpojaaGreat.AM
open Go

theorem asW_inv {d : D} {n : Nat} (h : asW d = some n) : d = .int .u64 n := by
  unfold asW at h
  split at h
  · split at h
    · cases h; congr 1; omega
    · cases h
  · cases h
theorem asBit_inv {d : D} {n : Nat} (h : asBit d = some n) : d = .int .u64 n ∧ n ≤ 1 := by
  unfold asBit at h
  split at h
  · split at h
    · cases h; subst_vars; exact ⟨rfl, by omega⟩
    · split at h
      · cases h; subst_vars; exact ⟨rfl, by omega⟩
      · cases h
  · cases h

theorem add64_run (x y z : Nat) (hz : z ≤ 1) (w : World) : (callFunc (Φ 31) #[.int .u64 x, .int .u64 y, .int .u64 z]).run Tryz.prog w =
    .ok (.value (.tuple #[.int .u64 ((x + y + z) % 18446744073709551616 : Nat), .int .u64 ((x + y + z) / 18446744073709551616 : Nat)])) w := by
  have h := run_callFunc_extern (P := Tryz.prog) (f := Φ 31) (fn := Tryz.f101) (e := add64Entry) Tryz.func101 (by kernel_rfl) (by kernel_rfl) (by kernel_rfl) (by kernel_rfl) #[.int .u64 x, .int .u64 y, .int .u64 z] w
  rw [h, run_add64 x y z (by omega) (by omega) (by omega) (by omega)]
  rfl
theorem x0ok : COk Tryz.prog Φ X0 := by
  intro f vs st v st' h w Z σ xs S hv
  unfold X0 at h
  split at h
  · rename_i hf
    subst hf
    split at h
    · rename_i a b c
      split at h
      · rename_i x y z h1 h2 h3
        cases h
        obtain ⟨u1, xs, rfl, r1, hv⟩ := hv.cons_inv
        obtain ⟨u2, xs, rfl, r2, hv⟩ := hv.cons_inv
        obtain ⟨u3, xs, rfl, r3, hv⟩ := hv.cons_inv
        obtain rfl := hv.nil_inv
        have e1 := asW_inv h1
        have e2 := asW_inv h2
        obtain ⟨e3, hz⟩ := asBit_inv h3
        subst e1 e2 e3
        cases r1 with | d r1 => ?_
        cases r2 with | d r2 => ?_
        cases r3 with | d r3 => ?_
        cases r1; cases r2; cases r3
        refine .inr ⟨_, w, add64_run x y z hz w, Z, σ, S, .tup rfl ?_, Ext.refl _ _ _ _ _⟩
        intro i c v q1 q2
        match i with
        | 0 => simp at q1 q2; subst q1 q2; exact .d (.int _ _)
        | 1 => simp at q1 q2; subst q1 q2; exact .d (.int _ _)
        | i + 2 => simp at q1
      · cases h
    · cases h
  · cases h

def tblC : List (Nat × AFunc) := [(98, F98), (113, F113)]
def TC (f : Nat) : Option AFunc := tblC.lookup f
theorem mc98 : mFunc Tryz.prog Φ (Φ 98) F98 = true := by kernel_rfl
theorem mc113 : mFunc Tryz.prog Φ (Φ 113) F113 = true := by kernel_rfl
set_option maxRecDepth 100000 in
theorem tcok : TOk Tryz.prog Φ TC := by
  have h : ∀ p ∈ tblC, mFunc Tryz.prog Φ (Φ p.1) p.2 = true := by
    simp only [tblC, List.forall_mem_cons]
    exact ⟨mc98, mc113, fun p h => by cases h⟩
  intro f F hF
  exact h _ (lookup_mem _ _ _ hF)

theorem cn98 : acall TC X0 98 [.d .nil] [] = some (.hs 0 2 0 0, [.arr 2 [] true]) := by
  rw [acall_go (T := TC) (X := X0) (F := F98) rfl (if_neg (by decide)) rfl]
  simp [F98, F98_c, args]
  simp [fin]
theorem cs98 {xs : List (List D)} (h : okSz 2 xs = true) (hl : xs.length ≤ maxApp) : acall TC X0 98 [.nn xs] [] = some (.hs 0 2 0 xs.length, [.arr 2 xs true]) := by
  simp only [okSz] at h
  rw [acall_go (T := TC) (X := X0) (F := F98) rfl (if_neg (by decide)) rfl]
  simp [F98, F98_c, args, h, hl]
  simp [fin]

theorem cn113 : acall TC X0 113 [.d .nil] [] = some (.hs 0 1 0 0, [.arr 1 [] true]) := by
  rw [acall_go (T := TC) (X := X0) (F := F113) rfl (if_neg (by decide)) rfl]
  simp [F113, F113_c, args]
  simp [fin]
theorem cs113 {xs : List (List D)} (h : okSz 1 xs = true) (hl : xs.length ≤ maxApp) : acall TC X0 113 [.nn xs] [] = some (.hs 0 1 0 xs.length, [.arr 1 xs true]) := by
  simp only [okSz] at h
  rw [acall_go (T := TC) (X := X0) (F := F113) rfl (if_neg (by decide)) rfl]
  simp [F113, F113_c, args, h, hl]
  simp [fin]

theorem clone_ok {f sz : Nat} (hn : acall TC X0 f [.d .nil] [] = some (.hs 0 sz 0 0, [.arr sz [] true])) (hs : ∀ xs, okSz sz xs = true → xs.length ≤ maxApp → acall TC X0 f [.nn xs] [] = some (.hs 0 sz 0 xs.length, [.arr sz xs true]))
    {vs : List AV} {st : St} {v : AV} {st' : St} (h : cloneX sz vs st = some (v, st')) (w : World) (Z : Nat → Nat) (σ : Nat → Option (Nat × Nat)) (xs : List Value) (S : Sim Φ w Z σ st) (hv : VRels Φ w Z σ st vs xs) :
    CallP Tryz.prog (Φ f) xs.toArray w (fun x w' => ∃ Z' σ', Sim Φ w' Z' σ' st' ∧ VRel Φ w' Z' σ' st' v x ∧ Ext st.length w Z σ st w' Z' σ' st') := by
  unfold cloneX at h
  split at h
  · rename_i ys
    split at h
    · rename_i hq
      cases h
      obtain ⟨u, xs, rfl, r1, hv⟩ := hv.cons_inv
      obtain rfl := hv.nil_inv
      cases r1 with | d r1 => ?_
      rcases r1.sl_inv with ⟨rfl, rfl⟩ | ⟨b, off, cap, sz', rfl, hc, hr, hz⟩
      · exact acall_ok TC X0 tcok x0ok f _ _ _ _ hn w Z σ _ S (.cons (.d .nil) .nil)
      · exact acall_ok TC X0 tcok x0ok f _ _ _ _ (hs ys hq.1 hq.2) w Z σ _ S (.cons (.nn r1) .nil)
    · cases h
  · cases h
theorem xok : COk Tryz.prog Φ X := by
  intro f vs st v st' h w Z σ xs S hv
  unfold X at h
  split at h
  · rename_i sz hl
    have hm := lookup_mem _ _ _ hl
    simp only [cloneSz, List.mem_cons, Prod.mk.injEq, List.not_mem_nil, or_false] at hm
    rcases hm with ⟨rfl, rfl⟩ | ⟨rfl, rfl⟩
    · exact clone_ok cn98 (fun _ => cs98) h w Z σ xs S hv
    · exact clone_ok cn113 (fun _ => cs113) h w Z σ xs S hv
  · exact x0ok f vs st v st' h w Z σ xs S hv
end Go.Proofs.YtplgdddfhjpojaaGreat.AM

namespace Go.Proofs.YtplgdddfhjpojaaGreat.fnSettled
open Go Go.ChangeShapes Go.WideShapes Go.ChangeAt Go.RowKit Go.Proofs.YtplgdddfhjpojaaGreat.AM
theorem own : ownKnob Tryz.prog.godebug = none := by kernel_rfl
theorem laidOut : laidOutB Tryz.prog = true := by kernel_rfl
set_option maxRecDepth 100000 in
theorem lifted (os : Os) (started : os.Started) (H : Type) (enc : TypeId × Value → H) :
    ReturnsInHanded {} Tryz.checked os 3 .any (Rows.fnSettledSpec.pre6 enc Tryz.prog Tryz.f3 Rows.fnSettledRow.domain false) (Rows.fnSettledSpec.post enc Tryz.prog Tryz.f3 false true false false) := by
  refine returnsInHanded_of_change_sized (C := Tryz.checked) own started (by kernel_rfl) Tryz.func3
    (ChangeSpec.witness6 (enc := enc) (C := Tryz.checked) false ⟨#[], #[.slice none 0 0, .slice none 0 0], []⟩ 8 (by kernel_rfl) (by kernel_rfl) (by kernel_rfl) (by kernel_rfl)) ?_
  intro W base args ds gs before hval0 hW hcnd hsz0 _
  have hsz : (DataW.weightsEach Tryz.prog (Tryz.f3.params.toList ++ Rows.fnSettledSpec.plain.varTypes Tryz.prog) (ds ++ gs)).all (· ≤ reachBytes) = true := hsz0
  have hval : ∀ (j : Nat) t v, Tryz.f3.params[j]? = some t → args[j]? = some v → Value.okWide Tryz.prog W .any base t v := hval0
  have hW' := hW
  obtain ⟨p, q, hA0, hV, rfl, hfz, hnd⟩ := hW
  have hA : DataW.TrodAll enc Tryz.prog W 0 (fun _ => true) true Tryz.f3.params.toList args.toList ds p := hA0
  rw [Tryz.params3] at hA hval hsz
  obtain ⟨v0, v1, d0, d1, p0, p1, rfl, rfl, rfl, h0, h1⟩ := trodAll_two hA
  obtain ⟨rfl, rfl⟩ := trodVars_none hV
  obtain ⟨l0, b0, r0⟩ := open_u8 Tryz.underlying22 Tryz.underlying5 (by kernel_rfl) (by kernel_rfl) (hval 0 22 v0 rfl rfl) h0 hsz (j := 0) rfl rfl
  obtain ⟨l1, b1, r1⟩ := open_u8 Tryz.underlying22 Tryz.underlying5 (by kernel_rfl) (by kernel_rfl) (hval 1 22 v1 rfl rfl) h1 hsz (j := 1) rfl rfl
  have lt0 : ∀ x ∈ p0, x.block < W.heap.size := by obtain ⟨m, hm⟩ := h0; exact DataW.trod_lt m _ _ _ hm
  have lt1 : ∀ x ∈ p1, x.block < W.heap.size := by obtain ⟨m, hm⟩ := h1; exact DataW.trod_lt m _ _ _ hm
  clear hA0 hval0 hsz0 hsz
  have hc := row_calls (acall_ok AM.T AM.X AM.tok AM.xok) (f := 122) (c122 l0 l1 b0 b1) (fn := Tryz.f3) Tryz.func3 (by kernel_rfl) (by kernel_rfl) W [v0, v1] (.cons (r0 Φ) (.cons (r1 Φ) .nil))
  refine Calls.mono (P := Tryz.prog) (f := 3) hc fun e W' ⟨x, he, ⟨Z', σ', hx⟩, kp⟩ => ?_
  have hx := bool_of hx
  subst he hx
  exact ⟨_, rfl, _, _, _, [], _, [], hW', trodAll_mk1 (shut_bool Tryz.underlying4 _), (trodAll_cons_mk (kp.trod laidOut (by kernel_rfl) (of_decide_eq_true (by kernel_rfl)) h0 lt0) (trodAll_cons_mk (kp.trod laidOut (by kernel_rfl) (of_decide_eq_true (by kernel_rfl)) h1 lt1) trodAll_mk0)), rfl, kp.frame _, fun h => by cases h⟩
theorem over : Rows.fnSettledRow.holds Tryz.pinned (OpenSpec.ofChange Rows.fnSettledSpec) :=
  OpenClaim.holds_of_wide 3 Tryz.f3 rfl rfl rfl rfl rfl rfl rfl ⟨rfl, rfl, rfl, rfl, rfl⟩ rfl rfl rfl rfl rfl (by kernel_rfl) Tryz.func3 (by kernel_rfl)
    (of_decide_eq_true (by kernel_rfl)) (by unfold Func.isWrapper; first | (rw [if_pos (by decide +kernel)]; kernel_rfl) | (rw [if_neg (by decide +kernel)]; exact ⟨rfl, rfl⟩))
    (fun os started H enc _ => lifted os started H enc)
end Go.Proofs.YtplgdddfhjpojaaGreat.fnSettled
namespace Go.Proofs.YtplgdddfhjpojaaGreat
/-- The row. -/
theorem fnSettled_holds : Rows.FnSettledSaid := fnSettled.over
#print axioms fnSettled_holds
end Go.Proofs.YtplgdddfhjpojaaGreat
