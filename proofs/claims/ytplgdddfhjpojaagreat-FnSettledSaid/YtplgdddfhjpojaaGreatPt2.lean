/-
All single operations but calls. Slicing, the small rest, and all operations but calls in one theorem. Handles numbered anew; what a call hands over and gets back. Calls: what is handed over, and what comes back. Regions: one operation in a frame; the order of the text; any order. Regions that draw their order: where the operations lie apart, every order comes to the same.
Conditions: none beyond those that each theorem states.
-/
import Derived.Test.YtplgdddfhjpojaaGreatPt1
import Derived.Laws.Cover3
import Derived.Laws.MakeOwn
import Derived.Laws.BytesArg
set_option linter.all false
namespace Go.Proofs.YtplgdddfhjpojaaGreat.AM
open Go

section
variable {P : Program} {Φ : Nat → FuncId} {w : World} {Z : Nat → Nat} {σ : Nat → Option (Nat × Nat)} {st st1 : St} {ρ : Nat → AV} {a : Act} {v : AV} {C : Orc} {lim : Nat}

theorem eq_run (o : Oper) {op : Op} (ho : o.op = op) (w : World) : (execOp a.eval o).run P w = (execOp a.eval { o with op := op }).run P w := by cases o; subst ho; rfl

theorem r_mv (S : Sim Φ w Z σ st) (hE : ERel Φ w Z σ st ρ a) {o : Oper} {x : AOpd} (hm : mOp P Φ (.mv x) o.op = true) (h : aop C lim (.mv x) ρ st = some (v, st1)) :
    Ran Φ w Z σ st ((execOp a.eval o).run P w) v st1 := by
  obtain ⟨dst, op, ty, pos, aft, g⟩ := o
  simp only [aop, Option.some.injEq, Prod.mk.injEq] at h
  obtain ⟨rfl, rfl⟩ := h
  cases op <;> simp [mOp] at hm
  · exact Ran.val S (by simp [execOp]) (opd hE hm)
  · exact Ran.val S (by simp [execOp]) (opd hE hm)

theorem r_pick (S : Sim Φ w Z σ st) (hE : ERel Φ w Z σ st ρ a) {o : Oper} {c x y : AOpd} (hm : mOp P Φ (.pick c x y) o.op = true) (h : aop C lim (.pick c x y) ρ st = some (v, st1)) :
    Ran Φ w Z σ st ((execOp a.eval o).run P w) v st1 := by
  obtain ⟨dst, op, ty, pos, aft, g⟩ := o
  cases op <;> simp [mOp] at hm
  rename_i c' x' y'
  obtain ⟨⟨h1, h2⟩, h3⟩ := hm
  have hc := opd hE h1
  simp only [aop] at h
  split at h
  · rename_i t ht
    rw [ht] at hc
    simp only [Option.some.injEq, Prod.mk.injEq] at h
    obtain ⟨rfl, rfl⟩ := h
    have hcb := hc.bool_inv
    refine Ran.val S (x := if t then a.eval x' else a.eval y') (by simp [execOp, hcb, asBool]) ?_
    cases t
    · exact opd hE h3
    · exact opd hE h2
  · cases h

theorem r_alloc (S : Sim Φ w Z σ st) {o : Oper} {z : List AV} (hm : mOp P Φ (.alloc z) o.op = true) (h : aop C lim (.alloc z) ρ st = some (v, st1)) :
    Ran Φ w Z σ st ((execOp a.eval o).run P w) v st1 := by
  obtain ⟨dst, op, ty, pos, aft, g⟩ := o
  cases op <;> simp [mOp] at hm
  rename_i t
  cases hz : zeroOf P t with
  | none => simp [hz] at hm
  | some vs =>
    simp [hz] at hm
    obtain ⟨i, zv, h1, h2, h3, h4⟩ := zeroOf_some hz
    simp only [aop, Option.some.injEq, Prod.mk.injEq] at h
    obtain ⟨rfl, rfl⟩ := h
    obtain ⟨σ', g1, g2, g3⟩ := new_box S t (c := zv.cells) (h3 ▸ mZ_sound hm)
    exact ⟨_, _, Z, σ', .inl (by simp [execOp, Instr.alloc, zeroValue, typeInfo, h1, h2, newVar, newRow]), g1, g2, g3⟩

theorem r_box (S : Sim Φ w Z σ st) (hE : ERel Φ w Z σ st ρ a) {o : Oper} {x : AOpd} (hm : mOp P Φ (.box x) o.op = true) (h : aop C lim (.box x) ρ st = some (v, st1)) :
    Ran Φ w Z σ st ((execOp a.eval o).run P w) v st1 := by
  obtain ⟨dst, op, ty, pos, aft, g⟩ := o
  cases op <;> simp [mOp] at hm
  rename_i t y
  simp only [aop] at h
  split at h
  · rename_i hs
    simp only [Option.some.injEq, Prod.mk.injEq] at h
    obtain ⟨rfl, rfl⟩ := h
    obtain ⟨σ', g1, g2, g3⟩ := new_box S t (c := (a.eval y).cells) ((opd hE hm).cellsOf hs).1
    exact ⟨_, _, Z, σ', .inl (by simp [execOp, Instr.box, newVar, newRow]), g1, g2, g3⟩
  · cases h

theorem r_build (S : Sim Φ w Z σ st) (hE : ERel Φ w Z σ st ρ a) {o : Oper} {z : List AV} {ps : List (Nat × Nat × AOpd)} (hm : mOp P Φ (.build z ps) o.op = true) (h : aop C lim (.build z ps) ρ st = some (v, st1)) :
    Ran Φ w Z σ st ((execOp a.eval o).run P w) v st1 := by
  obtain ⟨dst, op, ty, pos, aft, g⟩ := o
  cases op <;> simp [mOp] at hm
  rename_i t qs
  obtain ⟨⟨hz, hf⟩, hp⟩ := hm
  cases hzo : zeroOf P t with
  | none => simp [hzo] at hz
  | some vs =>
    simp [hzo] at hz
    obtain ⟨i, zv, h1, h2, h3, h4⟩ := zeroOf_some hzo
    unfold fieldsB at hf
    cases hu : P.underlying t with
    | none => simp [hu] at hf
    | some d =>
      cases d <;> simp [hu] at hf
      rename_i fields
      obtain ⟨places, hpl⟩ := Option.isSome_iff_exists.1 hf
      simp only [aop] at h
      cases hfc : fillC ρ ps z with
      | none => simp [hfc] at h
      | some cs =>
        simp [hfc] at h
        obtain ⟨rfl, rfl⟩ := h
        obtain ⟨c', g1, g2⟩ := fillC_sound hE hu hpl hp hfc (c := zv.cells) (h3 ▸ mZ_sound hz)
        have hb : P.built t (qs.map fun (i, x) => (i, a.eval x)).toList = some c' := by
          unfold Program.built
          simp only [h1, hu, h2, hpl]
          simpa using g1
        refine Ran.val S (x := .agg c') ?_ (.agg (by have := g2.1; simpa using this) fun i c v h5 h6 => g2.2 i c v h5 (by simpa using h6))
        have := run_build w t _ c' hb
        simp only [execOp, Sem.run_bind, this, Result.andThen_ok]
        rfl

theorem r_bslice (S : Sim Φ w Z σ st) (hE : ERel Φ w Z σ st ρ a) {o : Oper} {sz n : Nat} {z : List D} {ps : List (Nat × AOpd)} (hm : mOp P Φ (.bslice sz z n ps) o.op = true) (h : aop C lim (.bslice sz z n ps) ρ st = some (v, st1)) :
    Ran Φ w Z σ st ((execOp a.eval o).run P w) v st1 := by
  obtain ⟨dst, op, ty, pos, aft, g⟩ := o
  cases op <;> simp only [mOp, Bool.false_eq_true] at hm
  rename_i t m qs
  simp only [Bool.and_eq_true] at hm
  obtain ⟨⟨⟨hz, hn⟩, hlim⟩, hp⟩ := hm
  cases hes : elemSz P t with
  | none => simp [hes] at hz
  | some p =>
    obtain ⟨e, s⟩ := p
    simp only [hes, Bool.and_eq_true] at hz
    obtain ⟨hs, hz⟩ := hz
    obtain ⟨i, h1, h2, h3, h4⟩ := elemSz_some hes
    cases hzo : zeroOf P e with
    | none => simp [hzo] at hz
    | some vs =>
      simp only [hzo] at hz
      obtain ⟨i', zv, h5, h6, h7, h8⟩ := zeroOf_some hzo
      rw [h2] at h5; cases h5
      have hsz : s = sz := by simpa using hs
      have hnm : n = m := by simpa using hn
      subst hsz hnm
      have hlim' : n * s ≤ 2 ^ 24 := of_decide_eq_true hlim
      simp only [aop] at h
      cases hfe : fillE ρ s ps (List.replicate n z) st with
      | none => simp [hfe] at h
      | some r =>
        obtain ⟨es, st2⟩ := r
        simp [hfe] at h
        obtain ⟨rfl, rfl⟩ := h
        have hA : ARel w Z s (List.replicate n z) ((Array.range (n * s)).map (zv.cells[· % zv.cells.size]!)) := zero_row (by rw [h7]; exact hz) (by omega) h4
        obtain ⟨Z', c', g1, g2, g3, g4, g5, g6, g7⟩ := fillE_sound hE hp S (Ext.refl _ _ _ _ _) rfl hfe hA (by simp)
        have hl : es.length = n := by simpa using g6
        obtain ⟨σ', k1, k2, k3⟩ := new_arr g1 e g4 (Nat.le_refl _) (by omega)
        rw [hl] at k2
        rw [g3] at k3
        refine ⟨_, _, Z', σ', .inl ?_, k1, by rw [g3] at k2 ⊢; exact k2, g2.trans k3⟩
        by_cases h0 : n * s = 0
        · have hn0 : n = 0 := by
            rcases Nat.mul_eq_zero.1 h0 with h' | h'
            · exact h'
            · exact absurd h' h4
          subst hn0
          have e0 : ∀ f : Nat → Value, (Array.range (0 * s)).map f = #[] := fun f => by simp [Array.range_zero']
          rw [e0] at g7
          have hq' : Instr.fill (fun i => some (i * s, s)) #[] (qs.map fun (i, x) => (i, a.eval x)).toList = some c' := by simpa using g7
          subst h3
          simp only [execOp, Instr.buildSlice, Sem.run_bind, run_underlying h1, sizeOf, typeInfo, run_program, h2, Sem.run_pure, Result.andThen_ok]
          rw [if_neg (by omega)]
          simp only [Sem.run_bind, Sem.run_pure, Result.andThen_ok, if_pos h0, e0, hq', newRow, run_newObj]
          rfl
        · subst h3
          have hr := run_buildSlice (P := P) w t e n (qs.map fun (i, x) => (i, a.eval x)).toList.toArray c' i zv h1 h2 h6 (by omega) h0 (by simpa using g7)
          simp only [Array.toArray_toList] at hr
          simp only [execOp, Sem.run_bind, hr, Result.andThen_ok]
          rfl

/-- Zero cells. -/
theorem zero_cells {z : List D} {zv : Value} {sz n : Nat} (hz : mZ (z.map .d) zv.cells.toList = true) (hs : zv.cells.size = sz) (hsz : sz ≠ 0) :
    VRels Φ w Z σ st (rowCells n z) ((Array.range (n * sz)).map (zv.cells[· % zv.cells.size]!)).toList := by
  obtain ⟨h1, h2⟩ := zero_row (w := w) (Z := Z) (n := n) hz hs hsz
  obtain ⟨hzl, _⟩ := mZd_sound (w := w) (Z := Z) hz
  have hzl' : z.length = sz := by rw [hzl]; simpa using hs
  have hk : ∀ (i : Nat) e, (List.replicate n z)[i]? = some e → e.length = sz := fun i e he => (h2 i e he).1
  have hfl : ∀ m : Nat, (List.replicate m z).flatten.length = m * sz := by
    intro m
    induction m with
    | zero => simp
    | succ m ih => rw [List.replicate_succ, List.flatten_cons, List.length_append, ih, hzl', Nat.add_mul]; omega
  refine ⟨by simp only [rowCells, List.length_map, hfl]; simp, fun r c x hc hx => ?_⟩
  simp only [rowCells, List.getElem?_map] at hc
  cases hd : (List.replicate n z).flatten[r]? with
  | none => simp [hd] at hc
  | some d =>
    simp [hd] at hc
    subst hc
    rw [flat_flatten] at hd
    obtain ⟨i, j, e, rfl, hj, he, hde⟩ := getElem?_flat hk hd
    obtain ⟨x', hx', hr⟩ := (h2 i e he).2 j d hde
    rw [Array.getElem?_toList, hx'] at hx
    cases hx
    exact .d hr

theorem fill_size {pl : Nat → Option (Nat × Nat)} : ∀ {qs : List (Nat × Value)} {c c' : Array Value}, Instr.fill pl c qs = some c' → c'.size = c.size
  | [], c, c', h => by simp [Instr.fill] at h; rw [h]
  | (i, v) :: qs, c, c', h => by
    simp only [Instr.fill] at h
    cases hp : pl i with
    | none => simp [hp] at h
    | some os =>
      obtain ⟨off, size⟩ := os
      simp only [hp] at h
      split at h
      · cases h
      · rename_i hc
        have := fill_size h
        rw [this]
        have hc' : v.cells.size = size ∧ off + size ≤ c.size := by
          simp at hc; omega
        exact (fill_step c v off (by omega)).1

theorem fillR_sound (hE : ERel Φ w Z σ st ρ a) {s : Nat} :
    ∀ {ps : List (Nat × AOpd)} {qs : List (Nat × Operand)} {cs cs1 : List AV} {c : Array Value}, mElems Φ ps qs = true → fillC ρ (ps.map fun p => (p.1 * s, s, p.2)) cs = some cs1 → VRels Φ w Z σ st cs c.toList →
    ∃ c', Instr.fill (fun i => some (i * s, s)) c (qs.map fun (i, x) => (i, a.eval x)) = some c' ∧ VRels Φ w Z σ st cs1 c'.toList
  | [], [], cs, cs1, c, _, h, hv => by
    simp [fillC] at h; subst h
    exact ⟨c, rfl, hv⟩
  | (i, x) :: ps, (i', y) :: qs, cs, cs1, c, hq, h, hv => by
    simp [mElems] at hq
    obtain ⟨⟨rfl, hxy⟩, hq⟩ := hq
    simp only [List.map_cons, fillC] at h
    split at h
    · rename_i hc
      obtain ⟨h1, h2, h3⟩ := hc
      obtain ⟨hcs, _⟩ := (opd hE hxy).cellsOf h2
      have hys : (a.eval y).cells.size = s := by have := hcs.1; simp at this; omega
      have hcl : c.size = cs.length := by have := hv.1; simpa using this
      obtain ⟨f1, f2⟩ := fill_step c (a.eval y) (i * s) (by omega)
      have htl : ((a.eval y).cells.zipIdx.foldl (fun cs (x : Value × Nat) => cs.setIfInBounds (i * s + x.2) x.1) c).toList = c.toList.take (i * s) ++ ((a.eval y).cells.toList ++ c.toList.drop (i * s + s)) := by
        apply List.ext_getElem?
        intro r
        rw [Array.getElem?_toList, f2]
        have hq : (c.toList.take (i * s)).length = i * s := by simp; omega
        by_cases e1 : r < i * s
        · rw [if_neg (by omega), List.getElem?_append_left (by omega), List.getElem?_take_of_lt e1]; simp
        · rw [List.getElem?_append_right (by omega), hq]
          by_cases e2 : r < i * s + s
          · rw [if_pos (by omega), List.getElem?_append_left (by simp; omega)]; simp
          · rw [if_neg (by omega), List.getElem?_append_right (by simp; omega), List.getElem?_drop]
            simp only [Array.length_toList, hys]
            rw [show i * s + s + (r - i * s - s) = r by omega]; simp
      have hv' : VRels Φ w Z σ st (cs.take (i * s) ++ ((x.ev ρ).cells ++ cs.drop (i * s + s))) ((a.eval y).cells.zipIdx.foldl (fun cs (x : Value × Nat) => cs.setIfInBounds (i * s + x.2) x.1) c).toList := by
        rw [htl]
        exact (hv.take _).append (hcs.append (hv.drop _))
      obtain ⟨c', g1, g2⟩ := fillR_sound hE hq h hv'
      refine ⟨c', ?_, g2⟩
      simp only [List.map_cons, Instr.fill]
      rw [if_neg (by simp [hys]; omega)]
      exact g1
    · cases h
  | [], _ :: _, _, _, _, hq, _, _ => by simp [mElems] at hq
  | _ :: _, [], _, _, _, hq, _, _ => by simp [mElems] at hq

theorem frza_frz1 {st : St} {v : AV} {r : D × St} (h : frza st v = some r) : frz1 st v = some r := by
  cases v with
  | d y => cases y <;> exact h
  | hs h' sz i n =>
    simp only [frza, frz1] at h ⊢
    cases ho : st[h']? with
    | none => simp [ho] at h
    | some o =>
      cases o with
      | arr => simp only [ho] at h ⊢; exact h
      | _ => simp [ho] at h
  | _ => simp [frza] at h
theorem frzaL_frzL : ∀ {vs : List AV} {st : St} {r : List D × St}, frzaL st vs = some r → frzL st vs = some r
  | [], st, r, h => h
  | v :: vs, st, r, h => by
    simp only [frzaL, frzL] at h ⊢
    cases h1 : frza st v with
    | none => simp [h1] at h
    | some r1 =>
      simp only [h1] at h
      rw [frza_frz1 h1]
      simp only
      cases h2 : frzaL r1.2 vs with
      | none => simp [h2] at h
      | some r2 =>
        simp only [h2] at h
        rw [frzaL_frzL h2]
        exact h
theorem fillQ_fillE {ρ : Nat → AV} {sz : Nat} : ∀ {ps : List (Nat × AOpd)} {es : List (List D)} {st : St} {r : List (List D) × St}, fillQ ρ sz ps es st = some r → fillE ρ sz ps es st = some r
  | [], es, st, r, h => h
  | (i, x) :: ps, es, st, r, h => by
    simp only [fillQ, fillE] at h ⊢
    cases h1 : frzaL st (x.ev ρ).cells with
    | none => simp [h1] at h
    | some r1 =>
      simp only [h1] at h
      rw [frzaL_frzL h1]
      simp only
      split at h
      · rename_i hc
        rw [if_pos hc]
        exact fillQ_fillE h
      · cases h

theorem r_bslq (S : Sim Φ w Z σ st) (hE : ERel Φ w Z σ st ρ a) {o : Oper} {sz n : Nat} {z : List D} {ps : List (Nat × AOpd)} (hm : mOp P Φ (.bslq sz z n ps) o.op = true) (h : aop C lim (.bslq sz z n ps) ρ st = some (v, st1)) :
    Ran Φ w Z σ st ((execOp a.eval o).run P w) v st1 := by
  have hm' : mOp P Φ (.bslice sz z n ps) o.op = true := by
    cases hop : o.op <;> rw [hop] at hm <;> first | exact hm | (simp [mOp] at hm)
  refine r_bslice (C := C) (lim := lim) S hE hm' ?_
  simp only [aop] at h ⊢
  cases hq : fillQ ρ sz ps (List.replicate n z) st with
  | none => simp [hq] at h
  | some r =>
    simp only [hq] at h
    rw [fillQ_fillE hq]
    exact h

theorem r_isnil (S : Sim Φ w Z σ st) (hE : ERel Φ w Z σ st ρ a) {o : Oper} {x : AOpd} (hm : mOp P Φ (.isnil x) o.op = true) (h : aop C lim (.isnil x) ρ st = some (v, st1)) :
    Ran Φ w Z σ st ((execOp a.eval o).run P w) v st1 := by
  obtain ⟨dst, op, ty, pos, aft, g⟩ := o
  cases op <;> simp only [mOp, Bool.false_eq_true] at hm
  rename_i bop t x' y' p'
  simp only [Bool.and_eq_true, decide_eq_true_eq] at hm
  obtain ⟨⟨⟨rfl, hes⟩, hx⟩, hy⟩ := hm
  obtain rfl := nilOp_inv hy
  obtain ⟨⟨e, s⟩, hel⟩ := Option.isSome_iff_exists.1 hes
  obtain ⟨ti, h1, h2, h3, h4⟩ := elemSz_some hel
  have vx := opd hE hx
  have he0 : a.eval (.const (.slice none 0 0)) = .slice none 0 0 := rfl
  have run : ∀ A n c (b : Bool), A.isNone = b → a.eval x' = .slice A n c → (execOp a.eval { dst := dst, op := .binOp .eql t x' (.const (.slice none 0 0)) p', type := ty, pos := pos, after := aft, guard := g }).run P w = .ok (.value (.bool b)) w := by
    intro A n c b hb hA
    have e1 : (Op.equal t (.slice A n c) (.slice none 0 0)).run P w = .ok b w := by
      rw [← hb]; exact run_equal_slice_nil (P := P) w t e A n c h1
    have e2 : (eqGuard .eql t x' (.const (.slice none 0 0)) (.slice A n c) (.slice none 0 0)).run P w = .ok () w := rfl
    have e3 : binOp .eql t (.slice A n c) (.slice none 0 0) = (do pure (.bool (← Op.equal t (.slice A n c) (.slice none 0 0)))) := rfl
    simp only [execOp, Sem.run_bind, hA, he0, e2, e3, e1, Result.andThen_ok, Sem.run_pure]
  generalize hay : a.eval x' = X at vx
  simp only [aop] at h
  split at h
  · rename_i hp
    cases h
    rw [hp] at vx
    rw [vx.nil_inv] at hay
    exact Ran.val S (run _ _ _ _ rfl hay) (.d (.bool _))
  · rename_i xs hp
    cases h
    rw [hp] at vx
    cases vx with
    | nn hd => exact Ran.val S (run _ _ _ _ rfl hay) (.d (.bool _))
  · rename_i e0 es hp
    cases h
    rw [hp] at vx
    cases vx with
    | d hd =>
      rcases hd.sl_inv with ⟨hq, _⟩ | ⟨b, off, cap, sz', rfl, _⟩
      · cases hq
      · exact Ran.val S (run _ _ _ _ rfl hay) (.d (.bool _))
  · rename_i hh sz' i n hp
    cases h
    rw [hp] at vx
    cases vx with
    | hs => exact Ran.val S (run _ _ _ _ rfl hay) (.d (.bool _))
    | rhs => exact Ran.val S (run _ _ _ _ rfl hay) (.d (.bool _))
    | dhs hd hc ha hp' =>
      rename_i A c
      cases A with
      | none => have := ha rfl; omega
      | some A => exact Ran.val S (run _ _ _ _ rfl hay) (.d (.bool _))
  · cases h

theorem r_brow (S : Sim Φ w Z σ st) (hE : ERel Φ w Z σ st ρ a) {o : Oper} {sz n : Nat} {z : List D} {ps : List (Nat × AOpd)} (hm : mOp P Φ (.brow sz z n ps) o.op = true) (h : aop C lim (.brow sz z n ps) ρ st = some (v, st1)) :
    Ran Φ w Z σ st ((execOp a.eval o).run P w) v st1 := by
  obtain ⟨dst, op, ty, pos, aft, g⟩ := o
  cases op <;> simp only [mOp, Bool.false_eq_true] at hm
  rename_i t m qs
  simp only [Bool.and_eq_true] at hm
  obtain ⟨⟨⟨hz, hn⟩, hlim⟩, hp⟩ := hm
  cases hes : elemSz P t with
  | none => simp [hes] at hz
  | some p =>
    obtain ⟨e, s⟩ := p
    simp only [hes, Bool.and_eq_true] at hz
    obtain ⟨hs, hz⟩ := hz
    obtain ⟨i, h1, h2, h3, h4⟩ := elemSz_some hes
    cases hzo : zeroOf P e with
    | none => simp [hzo] at hz
    | some vs =>
      simp only [hzo] at hz
      obtain ⟨i', zv, h5, h6, h7, h8⟩ := zeroOf_some hzo
      rw [h2] at h5; cases h5
      have hsz : s = sz := by simpa using hs
      have hnm : n = m := by simpa using hn
      subst hsz hnm
      have hlim' : n * s ≤ 2 ^ 24 := of_decide_eq_true hlim
      simp only [aop] at h
      cases hfe : fillC ρ (ps.map fun p => (p.1 * s, s, p.2)) (rowCells n z) with
      | none => simp [hfe] at h
      | some cs =>
        simp [hfe] at h
        obtain ⟨rfl, rfl⟩ := h
        have hA : VRels Φ w Z σ st (rowCells n z) ((Array.range (n * s)).map (zv.cells[· % zv.cells.size]!)).toList := zero_cells (by rw [h7]; exact hz) (by omega) h4
        obtain ⟨c', g7, g4⟩ := fillR_sound hE hp hfe hA
        have g6 : c'.size = n * s := by have := fill_size g7; simpa using this
        have hl : cs.length = n * s := by have := g4.1; simp at this; omega
        obtain ⟨σ', k1, k2, k3⟩ := new_rows (sz := s) (n := n) (cap := n) (cs := cs) (c := c') S e (by rw [hl, ← g6, ← Array.length_toList, List.take_length]; exact g4) (by omega) (Nat.le_refl _) (by omega)
        refine ⟨_, _, Z, σ', .inl ?_, k1, k2, k3⟩
        by_cases h0 : n * s = 0
        · have hn0 : n = 0 := by
            rcases Nat.mul_eq_zero.1 h0 with h' | h'
            · exact h'
            · exact absurd h' h4
          subst hn0
          have e0 : ∀ f : Nat → Value, (Array.range (0 * s)).map f = #[] := fun f => by simp [Array.range_zero']
          rw [e0] at g7
          have hq' : Instr.fill (fun i => some (i * s, s)) #[] (qs.map fun (i, x) => (i, a.eval x)).toList = some c' := by simpa using g7
          subst h3
          simp only [execOp, Instr.buildSlice, Sem.run_bind, run_underlying h1, sizeOf, typeInfo, run_program, h2, Sem.run_pure, Result.andThen_ok]
          rw [if_neg (by omega)]
          simp only [Sem.run_bind, Sem.run_pure, Result.andThen_ok, if_pos h0, e0, hq', newRow, run_newObj]
          rfl
        · subst h3
          have hr := run_buildSlice (P := P) w t e n (qs.map fun (i, x) => (i, a.eval x)).toList.toArray c' i zv h1 h2 h6 (by omega) h0 (by simpa using g7)
          simp only [Array.toArray_toList] at hr
          simp only [execOp, Sem.run_bind, hr, Result.andThen_ok]
          rfl

theorem r_load (S : Sim Φ w Z σ st) (hE : ERel Φ w Z σ st ρ a) {o : Oper} {n : Option Nat} {x : AOpd} (hm : mOp P Φ (.load n x) o.op = true) (h : aop C lim (.load n x) ρ st = some (v, st1)) :
    Ran Φ w Z σ st ((execOp a.eval o).run P w) v st1 := by
  obtain ⟨dst, op, ty, pos, aft, g⟩ := o
  cases op <;> simp [mOp] at hm
  rename_i t y
  simp only [aop] at h
  cases hr : rd lim st n (x.ev ρ) with
  | none => simp [hr, pair2] at h
  | some r =>
    simp [hr, pair2] at h
    obtain ⟨rfl, rfl⟩ := h
    obtain ⟨A, u, h1, h2, h3⟩ := loadVar_run S hm.1 hr (opd hE hm.2)
    exact Ran.val S (x := u) (by simp [execOp, Instr.loadAt, h1, Instr.sureAddr, h2]) h3

theorem dL_frzL {st : St} : ∀ {vs : List AV} {ds : List D}, dL vs = some ds → frzL st vs = some (ds, st)
  | [], ds, h => by simp [dL] at h; subst h; rfl
  | v :: vs, ds, h => by
    cases v with
    | d x =>
      cases hd : dL vs with
      | none => cases x <;> simp [dL, hd] at h
      | some xs =>
        have ih := dL_frzL (st := st) hd
        cases x <;> simp [dL, hd] at h <;> subst h <;> simp [frzL, frz1, ih]
    | _ => simp [dL] at h
theorem fillP_fillE {ρ : Nat → AV} {sz : Nat} {st : St} : ∀ {ps : List (Nat × AOpd)} {es es1 : List (List D)}, fillP ρ sz ps es = some es1 → fillE ρ sz ps es st = some (es1, st)
  | [], es, es1, h => by simp [fillP] at h; subst h; rfl
  | (i, x) :: ps, es, es1, h => by
    simp only [fillP, fillE] at h ⊢
    cases h1 : dL (x.ev ρ).cells with
    | none => simp [h1] at h
    | some ds =>
      simp only [h1] at h
      rw [dL_frzL h1]
      simp only
      split at h
      · rename_i hc
        rw [if_pos hc]
        exact fillP_fillE h
      · cases h

theorem r_dsl (S : Sim Φ w Z σ st) (hE : ERel Φ w Z σ st ρ a) {o : Oper} {sz n : Nat} {z : List D} {ps : List (Nat × AOpd)} (hm : mOp P Φ (.dsl sz z n ps) o.op = true) (h : aop C lim (.dsl sz z n ps) ρ st = some (v, st1)) :
    Ran Φ w Z σ st ((execOp a.eval o).run P w) v st1 := by
  obtain ⟨dst, op, ty, pos, aft, g⟩ := o
  cases op <;> simp only [mOp, Bool.false_eq_true] at hm
  rename_i t m qs
  simp only [Bool.and_eq_true] at hm
  obtain ⟨⟨⟨hz, hn⟩, hlim⟩, hp⟩ := hm
  cases hes : elemSz P t with
  | none => simp [hes] at hz
  | some p =>
    obtain ⟨e, s⟩ := p
    simp only [hes, Bool.and_eq_true] at hz
    obtain ⟨hs, hz⟩ := hz
    obtain ⟨i, h1, h2, h3, h4⟩ := elemSz_some hes
    cases hzo : zeroOf P e with
    | none => simp [hzo] at hz
    | some vs =>
      simp only [hzo] at hz
      obtain ⟨i', zv, h5, h6, h7, h8⟩ := zeroOf_some hzo
      rw [h2] at h5; cases h5
      have hsz : s = sz := by simpa using hs
      have hnm : n = m := by simpa using hn
      subst hsz hnm
      have hlim' : n * s ≤ 2 ^ 24 := of_decide_eq_true hlim
      simp only [aop] at h
      cases hfp : fillP ρ s ps (List.replicate n z) with
      | none => simp [hfp] at h
      | some es =>
        simp [hfp] at h
        obtain ⟨rfl, rfl⟩ := h
        have hfe := fillP_fillE (st := st) hfp
        have hA : ARel w Z s (List.replicate n z) ((Array.range (n * s)).map (zv.cells[· % zv.cells.size]!)) := zero_row (by rw [h7]; exact hz) (by omega) h4
        obtain ⟨Z', c', g1, g2, g3, g4, g5, g6, g7⟩ := fillE_sound hE hp S (Ext.refl _ _ _ _ _) rfl hfe hA (by simp)
        have hl : es.length = n := by simpa using g6
        obtain ⟨Z2, k1, k2, k3⟩ := new_dsl g1 e g4
        rw [hl] at k2
        refine ⟨_, _, Z2, σ, .inl ?_, k1, .d k2, g2.trans k3⟩
        by_cases h0 : n * s = 0
        · have hn0 : n = 0 := by
            rcases Nat.mul_eq_zero.1 h0 with h' | h'
            · exact h'
            · exact absurd h' h4
          subst hn0
          have e0 : ∀ f : Nat → Value, (Array.range (0 * s)).map f = #[] := fun f => by simp [Array.range_zero']
          rw [e0] at g7
          have hq' : Instr.fill (fun i => some (i * s, s)) #[] (qs.map fun (i, x) => (i, a.eval x)).toList = some c' := by simpa using g7
          subst h3
          simp only [execOp, Instr.buildSlice, Sem.run_bind, run_underlying h1, sizeOf, typeInfo, run_program, h2, Sem.run_pure, Result.andThen_ok]
          rw [if_neg (by omega)]
          simp only [Sem.run_bind, Sem.run_pure, Result.andThen_ok, if_pos h0, e0, hq', newRow, run_newObj]
          rfl
        · subst h3
          have hr := run_buildSlice (P := P) w t e n (qs.map fun (i, x) => (i, a.eval x)).toList.toArray c' i zv h1 h2 h6 (by omega) h0 (by simpa using g7)
          simp only [Array.toArray_toList] at hr
          simp only [execOp, Sem.run_bind, hr, Result.andThen_ok]
          rfl

theorem rdb_rd {lim : Nat} {n : Option Nat} {p v : AV} (h : rdb lim st n p = some v) : rd lim st n p = some v := by
  cases p with
  | ptr h' sz i f =>
    simp only [rdb, rd] at h ⊢
    split at h
    · rename_i hl
      rw [if_pos hl]
      cases ho : st[h']? with
      | none => simp [ho] at h
      | some o =>
        cases o with
        | box cs => simp only [ho] at h ⊢; exact h
        | _ => simp [ho] at h
    · cases h
  | _ => simp [rdb] at h

theorem r_ldb (S : Sim Φ w Z σ st) (hE : ERel Φ w Z σ st ρ a) {o : Oper} {n : Option Nat} {x : AOpd} (hm : mOp P Φ (.ldb n x) o.op = true) (h : aop C lim (.ldb n x) ρ st = some (v, st1)) :
    Ran Φ w Z σ st ((execOp a.eval o).run P w) v st1 := by
  have hm' : mOp P Φ (.load n x) o.op = true := by
    cases hop : o.op <;> rw [hop] at hm <;> first | exact hm | (simp [mOp] at hm)
  refine r_load (C := C) (lim := lim) S hE hm' ?_
  simp only [aop] at h ⊢
  cases hr : rdb lim st n (x.ev ρ) with
  | none => simp [hr, pair2] at h
  | some r => rw [hr] at h; rw [rdb_rd hr]; exact h

theorem r_ldg (S : Sim Φ w Z σ st) (hE : ERel Φ w Z σ st ρ a) {o : Oper} {n : Option Nat} {x y : AOpd} (hm : mOp P Φ (.ldg n x y) o.op = true) (h : aop C lim (.ldg n x y) ρ st = some (v, st1)) :
    Ran Φ w Z σ st ((execOp a.eval o).run P w) v st1 := by
  have hm' : mOp P Φ (.load n x) o.op = true := by
    cases hop : o.op <;> rw [hop] at hm <;> first | exact hm | (simp [mOp] at hm)
  refine r_load (C := C) (lim := lim) S hE hm' ?_
  simp only [aop] at h ⊢
  split at h
  · split at h
    · rename_i hx; rw [hx]; exact h
    · cases h
  · cases h

theorem r_store (S : Sim Φ w Z σ st) (hE : ERel Φ w Z σ st ρ a) {o : Oper} {n : Nat} {p x : AOpd} (hm : mOp P Φ (.store n p x) o.op = true) (h : aop C lim (.store n p x) ρ st = some (v, st1)) :
    Ran Φ w Z σ st ((execOp a.eval o).run P w) v st1 := by
  obtain ⟨dst, op, ty, pos, aft, g⟩ := o
  cases op <;> simp [mOp] at hm
  rename_i t b u
  obtain ⟨⟨hi, hb⟩, hu⟩ := hm
  cases hti : P.info? t with
  | none => simp [hti] at hi
  | some i =>
    simp [hti] at hi
    simp only [aop] at h
    cases hw : wrt st n (p.ev ρ) (x.ev ρ) with
    | none => simp [hw] at h
    | some st2 =>
      simp [hw] at h
      obtain ⟨rfl, rfl⟩ := h
      obtain ⟨A, w', Z', h1, h2, h3, h4⟩ := wrt_run S hti hi hw (opd hE hb) (opd hE hu)
      refine ⟨undef, w', Z', σ, .inr ⟨?_, rfl⟩, h3, .tup rfl (fun i c v h => by simp at h), h4⟩
      simp [execOp, Instr.storeAt, h1, Instr.sureAddr, h2]

theorem VRel.ptr_inv {h sz i f : Nat} {X : Value} (hv : VRel Φ w Z σ st (.ptr h sz i f) X) : ∃ A, X = .pointer (some A) := by cases hv <;> exact ⟨_, rfl⟩
theorem VRel.eptr_inv {c : List D} {f : Nat} {X : Value} (hv : VRel Φ w Z σ st (.eptr c f) X) : ∃ A, X = .pointer (some A) := by cases hv; exact ⟨_, rfl⟩

theorem r_nilc (S : Sim Φ w Z σ st) (hE : ERel Φ w Z σ st ρ a) {o : Oper} {x : AOpd} (hm : mOp P Φ (.nilc x) o.op = true) (h : aop C lim (.nilc x) ρ st = some (v, st1)) :
    Ran Φ w Z σ st ((execOp a.eval o).run P w) v st1 := by
  obtain ⟨dst, op, ty, pos, aft, g⟩ := o
  cases op <;> simp [mOp] at hm
  rename_i y
  have hx := opd hE hm
  simp only [aop] at h
  split at h
  · rename_i h1 sz i f hp
    cases h
    rw [hp] at hx
    obtain ⟨A, hA⟩ := hx.ptr_inv
    exact Ran.val S (x := a.eval y) (by simp [execOp, hA]) hx
  · rename_i c f hp
    cases h
    rw [hp] at hx
    obtain ⟨A, hA⟩ := hx.eptr_inv
    exact Ran.val S (x := a.eval y) (by simp [execOp, hA]) hx
  · cases h

theorem r_bin (S : Sim Φ w Z σ st) (hE : ERel Φ w Z σ st ρ a) {o : Oper} {bop : BinOp} {x y : AOpd} (hm : mOp P Φ (.bin bop x y) o.op = true) (h : aop C lim (.bin bop x y) ρ st = some (v, st1)) :
    Ran Φ w Z σ st ((execOp a.eval o).run P w) v st1 := by
  obtain ⟨dst, op, ty, pos, aft, g⟩ := o
  cases op <;> simp [mOp] at hm
  rename_i bop' t x' y' t'
  obtain ⟨⟨rfl, hx⟩, hy⟩ := hm
  have vx := opd hE hx
  have vy := opd hE hy
  simp only [aop, pair2] at h
  cases hX : x.ev ρ with
  | d dx =>
    cases hY : y.ev ρ with
    | d dy =>
      rw [hX] at vx; rw [hY] at vy
      simp only [hX, hY, dbin] at h
      cases hb : abin bop dx dy with
      | none => simp [hb] at h
      | some z =>
        simp [hb] at h
        obtain ⟨rfl, rfl⟩ := h
        cases vx with
        | d hdx =>
          cases vy with
          | d hdy =>
            obtain ⟨r, h1, h2⟩ := abin_run (P := P) t x' y' hb hdx hdy
            refine Ran.val S (x := r) ?_ (.d h2)
            simp only [execOp, Sem.run_bind] at h1 ⊢
            rw [h1]; rfl
    | _ => simp [hX, hY, dbin] at h
  | _ => simp [hX, dbin] at h

theorem r_eqb (S : Sim Φ w Z σ st) (hE : ERel Φ w Z σ st ρ a) {o : Oper} {neg : Bool} {x y : AOpd} (hm : mOp P Φ (.eqb neg x y) o.op = true) (h : aop C lim (.eqb neg x y) ρ st = some (v, st1)) :
    Ran Φ w Z σ st ((execOp a.eval o).run P w) v st1 := by
  obtain ⟨dst, op, ty, pos, aft, g⟩ := o
  cases op <;> simp only [mOp, Bool.false_eq_true] at hm
  rename_i bop' t x' y' t'
  simp only [Bool.and_eq_true, decide_eq_true_eq] at hm
  obtain ⟨⟨⟨rfl, ht⟩, hx⟩, hy⟩ := hm
  have hu : P.underlying t = some .bool := by split at ht <;> simp_all
  have vx := opd hE hx
  have vy := opd hE hy
  simp only [aop] at h
  split at h
  · rename_i p q hp hq
    rw [hp] at vx; rw [hq] at vy
    cases h
    have ex := vx.bool_inv
    have ey := vy.bool_inv
    cases neg
    · exact Ran.val S (by simp [execOp, ex, ey, eqGuard_at_bool, run_eql_bool w t p q hu]) (.d (.bool _))
    · exact Ran.val S (by simp [execOp, ex, ey, eqGuard_at_bool, run_neq_bool w t p q hu]) (.d (.bool _))
  · cases h

theorem r_un (S : Sim Φ w Z σ st) (hE : ERel Φ w Z σ st ρ a) {o : Oper} {uop : UnOp} {x : AOpd} (hm : mOp P Φ (.un uop x) o.op = true) (h : aop C lim (.un uop x) ρ st = some (v, st1)) :
    Ran Φ w Z σ st ((execOp a.eval o).run P w) v st1 := by
  obtain ⟨dst, op, ty, pos, aft, g⟩ := o
  cases op <;> simp [mOp] at hm
  obtain ⟨rfl, hx⟩ := hm
  have vx := opd hE hx
  simp only [aop] at h
  split at h
  · rename_i p hp
    rw [hp] at vx
    cases hu : aun uop p with
    | none => simp [hu] at h
    | some z =>
      simp [hu] at h
      obtain ⟨rfl, rfl⟩ := h
      cases vx with
      | d hd =>
        obtain ⟨r, h1, h2⟩ := aun_run (P := P) hu hd
        exact Ran.val S (x := r) (by simp [execOp, h1]) (.d h2)
  · cases h

theorem r_conv (S : Sim Φ w Z σ st) (hE : ERel Φ w Z σ st ρ a) {o : Oper} {k : IntKind} {x : AOpd} (hm : mOp P Φ (.conv k x) o.op = true) (h : aop C lim (.conv k x) ρ st = some (v, st1)) :
    Ran Φ w Z σ st ((execOp a.eval o).run P w) v st1 := by
  obtain ⟨dst, op, ty, pos, aft, g⟩ := o
  cases op <;> simp only [mOp, Bool.false_eq_true] at hm
  rename_i src d y
  simp only [Bool.and_eq_true] at hm
  obtain ⟨⟨hs, hk⟩, hx⟩ := hm
  have vx := opd hE hx
  obtain ⟨sd, hsd⟩ := Option.isSome_iff_exists.1 hs
  have hu : P.underlying d = some (.int k) := by
    split at hk
    · rename_i k' hk'; rw [hk']; simp at hk; rw [hk]
    · cases hk
  simp only [aop] at h
  split at h
  · rename_i k' n hp
    rw [hp] at vx
    cases h
    refine Ran.val S (x := .int k (k.wrap n)) ?_ (.d (.int _ _))
    simp [execOp, vx.int_inv, convert, run_underlying hsd, run_underlying hu, Conv.intToInt]
  · cases h

theorem r_convs (S : Sim Φ w Z σ st) (hE : ERel Φ w Z σ st ρ a) {o : Oper} {x : AOpd} (hm : mOp P Φ (.convs x) o.op = true) (h : aop C lim (.convs x) ρ st = some (v, st1)) :
    Ran Φ w Z σ st ((execOp a.eval o).run P w) v st1 := by
  obtain ⟨dst, op, ty, pos, aft, g⟩ := o
  cases op <;> simp only [mOp, Bool.false_eq_true] at hm
  rename_i src d y
  simp only [Bool.and_eq_true] at hm
  obtain ⟨⟨hs, hk⟩, hx⟩ := hm
  have vx := opd hE hx
  obtain ⟨sd, hsd⟩ := Option.isSome_iff_exists.1 hs
  have hu : P.underlying d = some .string := by split at hk <;> simp_all
  simp only [aop] at h
  split at h
  · rename_i l hp
    rw [hp] at vx
    cases h
    obtain ⟨s, hs1, hs2⟩ := vx.str_inv
    refine Ran.val S (x := .string s) ?_ (.d (DRel.str' hs2))
    simp [execOp, hs1, convert, run_underlying hsd, run_underlying hu]
  · cases h

theorem fieldAtB_some {s : TypeId} {f off : Nat} {ft : TypeId} (h : fieldAtB P s f = some (off, ft)) : ∃ fields fd, P.underlying s = some (.struct fields) ∧ fields[f]? = some fd ∧ fd.offset = off ∧ fd.type = ft := by
  unfold fieldAtB at h
  cases hu : P.underlying s with
  | none => simp [hu] at h
  | some d =>
    cases d <;> simp [hu] at h
    rename_i fields
    cases hf : fields[f]? with
    | none => simp [hf] at h
    | some fd =>
      simp [hf] at h
      exact ⟨fields, fd, rfl, hf, h.1, h.2⟩

theorem r_faddr (S : Sim Φ w Z σ st) (hE : ERel Φ w Z σ st ρ a) {o : Oper} {off : Nat} {x : AOpd} (hm : mOp P Φ (.faddr off x) o.op = true) (h : aop C lim (.faddr off x) ρ st = some (v, st1)) :
    Ran Φ w Z σ st ((execOp a.eval o).run P w) v st1 := by
  obtain ⟨dst, op, ty, pos, aft, g⟩ := o
  cases op <;> simp only [mOp, Bool.false_eq_true] at hm
  rename_i s y f
  simp only [Bool.and_eq_true] at hm
  obtain ⟨hf, hx⟩ := hm
  have vx := opd hE hx
  cases hfa : fieldAtB P s f with
  | none => simp [hfa] at hf
  | some p =>
    obtain ⟨o', ft⟩ := p
    obtain ⟨fields, fd, h1, h2, h3, h4⟩ := fieldAtB_some hfa
    cases hi : P.info? ft with
    | none => simp [hfa, hi] at hf
    | some i =>
      simp [hfa, hi] at hf
      obtain ⟨rfl, hz⟩ := hf
      subst h3 h4
      have run : ∀ (b k : Nat), a.eval y = .pointer (some ⟨b, k, none⟩) → (execOp a.eval { dst := dst, op := .fieldAddr s y f, type := ty, pos := pos, after := aft, guard := g }).run P w = .ok (.value (.pointer (some ⟨b, k + fd.offset, none⟩))) w := by
        intro b k hy
        simp [execOp, hy, Instr.fieldAt, run_underlying h1, h2, Instr.sureAddr, fieldPlace, sizeOf, typeInfo, hi, hz, Addr.add_lit]
      simp only [aop] at h
      split at h
      · rename_i hh sz i' f' hp
        cases h
        rw [hp] at vx
        generalize hay : a.eval y = X at vx
        cases vx with
        | bptr hs ho =>
          rename_i b cs
          have := VRel.bptr (Φ := Φ) (w := w) (Z := Z) (sz := sz) (i := i') (f := f' + fd.offset) hs ho
          rw [← Nat.add_assoc] at this
          exact Ran.val S (run _ _ hay) this
        | aptr hs ho =>
          rename_i b o es wr
          have := VRel.aptr (Φ := Φ) (w := w) (Z := Z) (sz := sz) (i := i') (f := f' + fd.offset) hs ho
          rw [← Nat.add_assoc] at this
          exact Ran.val S (run _ _ hay) this
        | dptr hd =>
          rename_i A
          have : ∃ B, (execOp a.eval { dst := dst, op := .fieldAddr s y f, type := ty, pos := pos, after := aft, guard := g }).run P w = .ok (.value (.pointer (some B))) w :=
            ⟨_, by simp [execOp, hay, Instr.fieldAt, run_underlying h1, h2, Instr.sureAddr, fieldPlace, sizeOf, typeInfo, hi, hz]; rfl⟩
          obtain ⟨B, hB⟩ := this
          exact Ran.val S hB (.dptr hd)
      · rename_i c f' hp
        cases h
        rw [hp] at vx
        generalize hay : a.eval y = X at vx
        cases vx with
        | eptr hz hc =>
          rename_i b o
          have := VRel.eptr (Φ := Φ) (σ := σ) (st := st) (f := f' + fd.offset) hz hc
          rw [← Nat.add_assoc] at this
          exact Ran.val S (run _ _ hay) this
      · cases h

theorem part_run {t : TypeId} {n : Option Nat} (hn : mN P t n = true) {cs : List AV} {vs : Array Value} (hv : VRels Φ w Z σ st cs vs.toList) {off : Nat} (h : rdC cs off n = some v) :
    ∃ x, (part t vs off).run P w = .ok x w ∧ VRel Φ w Z σ st v x := by
  have := rdC_sound h hv
  unfold mN at hn
  cases hg : aggB P t with
  | none => simp [hg] at hn
  | some g =>
    cases hi : P.info? t with
    | none => cases g <;> simp [hg, hi] at hn
    | some i =>
      cases g with
      | true =>
        simp [hg, hi] at hn
        subst hn
        obtain ⟨h1, h2⟩ := this
        refine ⟨_, by simp [part, isAgg_run hg, sizeOf, typeInfo, hi]; rfl, ?_⟩
        have e : vs.extract off (off + i.size) = ((vs.toList.drop off).take i.size).toArray := by
          apply Array.ext'; simp [List.take_drop, Array.toList_extract, List.extract_eq_take_drop]
        rw [e]; exact h2
      | false =>
        simp [hg, hi] at hn
        subst hn
        obtain ⟨u, h1, h2⟩ := this
        have h1' : vs[off]? = some u := by simpa using h1
        exact ⟨u, by simp [part, isAgg_run hg, h1'], h2⟩

theorem r_fld (S : Sim Φ w Z σ st) (hE : ERel Φ w Z σ st ρ a) {o : Oper} {off : Nat} {n : Option Nat} {x : AOpd} (hm : mOp P Φ (.fld off n x) o.op = true) (h : aop C lim (.fld off n x) ρ st = some (v, st1)) :
    Ran Φ w Z σ st ((execOp a.eval o).run P w) v st1 := by
  obtain ⟨dst, op, ty, pos, aft, g⟩ := o
  cases op <;> simp only [mOp, Bool.false_eq_true] at hm
  rename_i s y f
  simp only [Bool.and_eq_true] at hm
  obtain ⟨hf, hx⟩ := hm
  have vx := opd hE hx
  cases hfa : fieldAtB P s f with
  | none => simp [hfa] at hf
  | some p =>
    obtain ⟨o', ft⟩ := p
    obtain ⟨fields, fd, h1, h2, h3, h4⟩ := fieldAtB_some hfa
    simp only [hfa, Bool.and_eq_true, beq_iff_eq] at hf
    obtain ⟨rfl, hn⟩ := hf
    subst h3 h4
    simp only [aop] at h
    split at h
    · rename_i cs hp
      rw [hp] at vx
      generalize hay : a.eval y = X at vx
      cases vx with
      | agg hl hh =>
        rename_i vs
        cases hr : rdC cs fd.offset n with
        | none => simp [hr, pair2] at h
        | some r =>
          simp [hr, pair2] at h
          obtain ⟨rfl, rfl⟩ := h
          obtain ⟨u, g1, g2⟩ := part_run (P := P) hn (vs := vs) ⟨by simpa using hl, fun i c v h5 h6 => hh i c v h5 (by simpa using h6)⟩ hr
          exact Ran.val S (x := u) (by simp [execOp, hay, Instr.field, run_underlying h1, h2, asAgg, g1]) g2
    · cases h

theorem r_iaddr (S : Sim Φ w Z σ st) (hE : ERel Φ w Z σ st ρ a) {o : Oper} {sz : Nat} {x i : AOpd} (hm : mOp P Φ (.iaddr sz x i) o.op = true) (h : aop C lim (.iaddr sz x i) ρ st = some (v, st1)) :
    Ran Φ w Z σ st ((execOp a.eval o).run P w) v st1 := by
  obtain ⟨dst, op, ty, pos, aft, g⟩ := o
  cases op <;> simp only [mOp, Bool.false_eq_true] at hm
  rename_i t y j
  simp only [Bool.and_eq_true] at hm
  obtain ⟨⟨hes, hx⟩, hj⟩ := hm
  have vx := opd hE hx
  have vi := opd hE hj
  cases hel : elemSz P t with
  | none => simp [hel] at hes
  | some p =>
    obtain ⟨e, s⟩ := p
    have hs : s = sz := by simpa [hel] using hes
    subst hs
    obtain ⟨ti, h1, h2, h3, h4⟩ := elemSz_some hel
    simp only [aop, pair2] at h
    cases hia : iadr s (x.ev ρ) (i.ev ρ) with
    | none => simp [hia] at h
    | some r =>
      simp [hia] at h
      obtain ⟨rfl, rfl⟩ := h
      unfold iadr at hia
      cases hix : aIx (i.ev ρ) with
      | none => simp [hix] at hia
      | some n =>
        simp only [hix] at hia
        obtain ⟨k, hk⟩ := aIx_inv hix vi
        have run : ∀ (b off len cap : Nat), a.eval y = .slice (some ⟨b, off, none⟩) len cap → 0 ≤ n → n < len →
            (execOp a.eval { dst := dst, op := .indexAddr t y j, type := ty, pos := pos, after := aft, guard := g }).run P w = .ok (.value (.pointer (some ⟨b, off + n.toNat * s, none⟩))) w := by
          intro b off len cap hy h0 hn
          simp [execOp, hy, hk, Instr.indexAt, run_underlying h1, asIntOf, h0, hn, sizeOf, typeInfo, h2, h3, Addr.add_lit]
        generalize hay : a.eval y = X at vx
        cases hX : x.ev ρ with
        | d dx =>
          rw [hX] at vx
          simp only [hX] at hia
          cases dx with
          | sl xs =>
            simp only at hia
            split at hia
            · rename_i h0
              cases he : xs[n.toNat]? with
              | none => simp [he] at hia
              | some e' =>
                simp only [he] at hia
                split at hia
                · rename_i hel'
                  cases hia
                  have hlt := lt_of_getElem? he
                  cases vx with
                  | d hd =>
                    rcases hd.sl_inv with ⟨rfl, _⟩ | ⟨b, off, cap, sz', rfl, hc, hr, hz⟩
                    · simp at he
                    · obtain ⟨h5, h6⟩ := hr _ _ he
                      have : sz' = s := by omega
                      subst this
                      have hz' := hz _ hlt
                      rw [Nat.add_mul, Nat.one_mul] at hz'
                      exact Ran.val S (run b off xs.length cap hay h0 (by omega)) (by simpa using VRel.eptr (Φ := Φ) (σ := σ) (st := st) (f := 0) (by omega) h6)
                · cases hia
            · cases hia
          | _ => simp at hia
        | hs hh sz' i' m =>
          rw [hX] at vx
          simp only [hX] at hia
          split at hia
          · rename_i hq
            obtain ⟨rfl, h0, hn⟩ := hq
            cases hia
            cases vx with
            | hs hs ho hn' hc hb =>
              rename_i b o cap es wr
              have := VRel.aptr (Φ := Φ) (w := w) (Z := Z) (i := i' + n.toNat) (f := 0) hs ho
              rw [Nat.add_mul, ← Nat.add_assoc, Nat.add_zero] at this
              exact Ran.val S (run b _ m cap hay h0 (by omega)) this
            | hs0 => omega
            | hse => omega
            | rhs hs ho hn' hc hb =>
              rename_i b cap cs
              have := VRel.bptr (Φ := Φ) (w := w) (Z := Z) (sz := sz') (i := i' + n.toNat) (f := 0) hs ho
              rw [Nat.add_mul, Nat.add_zero] at this
              exact Ran.val S (run b _ m cap hay h0 (by omega)) this
            | rhs0 => omega
            | rhse => omega
            | dhs hd hc ha hp =>
              rename_i A c
              cases A with
              | none => have := ha rfl; omega
              | some A =>
                have hA := hp A rfl
                have : A = ⟨A.block, A.off, none⟩ := by cases A; simp_all
                rw [this] at hay
                exact Ran.val S (run _ _ m c hay h0 (by omega)) (.dptr hd)
          · cases hia
        | _ => simp [hX] at hia

theorem r_stri (S : Sim Φ w Z σ st) (hE : ERel Φ w Z σ st ρ a) {o : Oper} {x i : AOpd} (hm : mOp P Φ (.stri x i) o.op = true) (h : aop C lim (.stri x i) ρ st = some (v, st1)) :
    Ran Φ w Z σ st ((execOp a.eval o).run P w) v st1 := by
  obtain ⟨dst, op, ty, pos, aft, g⟩ := o
  cases op <;> simp only [mOp, Bool.false_eq_true] at hm
  rename_i t y j
  simp only [Bool.and_eq_true] at hm
  obtain ⟨⟨ht, hx⟩, hj⟩ := hm
  have hu : P.underlying t = some .string := by split at ht <;> simp_all
  have vx := opd hE hx
  have vi := opd hE hj
  simp only [aop] at h
  split at h
  · rename_i l n hp hq
    rw [hp] at vx
    obtain ⟨s, hs1, hs2⟩ := vx.str_inv
    obtain ⟨k, hk⟩ := aIx_inv hq vi
    split at h
    · rename_i h0
      cases hb : l[n.toNat]? with
      | none => simp [hb] at h
      | some b =>
        simp [hb] at h
        obtain ⟨rfl, rfl⟩ := h
        have hlt := lt_of_getElem? hb
        have hsz : l.length = s.size := by rw [← hs2, Array.length_toList]; rfl
        have hrun := run_index_string (P := P) w t s k n hu
        rw [dif_pos ⟨h0, by omega⟩] at hrun
        refine Ran.val S (x := .int .u8 b.toNat) ?_ (.d (.int _ _))
        have hbs : s[n.toNat]'(by omega) = b := by
          have : s.data.toList[n.toNat]? = some b := by rw [hs2]; exact hb
          rw [List.getElem?_eq_getElem (by rw [hs2]; exact hlt)] at this
          have h2 := Option.some.inj this
          rw [← h2]; simp; rfl
        rw [hbs] at hrun
        simp only [execOp, hs1, hk, Sem.run_bind, hrun, Result.andThen_ok]
        rfl
    · cases h
  · cases h

theorem r_len (S : Sim Φ w Z σ st) (hE : ERel Φ w Z σ st ρ a) {o : Oper} {x : AOpd} (hm : mOp P Φ (.len x) o.op = true) (h : aop C lim (.len x) ρ st = some (v, st1)) :
    Ran Φ w Z σ st ((execOp a.eval o).run P w) v st1 := by
  obtain ⟨dst, op, ty, pos, aft, g⟩ := o
  cases op <;> try (simp [mOp] at hm; done)
  rename_i c
  obtain ⟨callee, as, ts⟩ := c
  cases callee <;> try (simp [mOp] at hm; done)
  rename_i b
  cases b <;> try (simp [mOp] at hm; done)
  simp only [mOp] at hm
  split at hm
  · rename_i t y hts has
    simp only [Bool.and_eq_true] at hm
    obtain ⟨p, hp⟩ := Option.isSome_iff_exists.1 hm.1
    obtain ⟨e, s⟩ := p
    obtain ⟨ti, h1, h2, h3, h4⟩ := elemSz_some hp
    have vx := opd hE hm.2
    obtain rfl : ts = #[t] := by cases ts; simp_all
    obtain rfl : as = #[y] := by cases as; simp_all
    have run : ∀ A n c, a.eval y = .slice A n c → (execOp a.eval { dst := dst, op := .call { callee := .builtin .len, args := #[y], argTypes := #[t] }, type := ty, pos := pos, after := aft, guard := g }).run P w = .ok (.value (.int .i64 n)) w := by
      intro A n c hy
      simp [execOp, resolve, invoke, builtin, Builtin.len_, run_underlying h1, hy, goInt]
    generalize hay : a.eval y = X at vx
    simp only [aop, pair2] at h
    cases hX : x.ev ρ with
    | d dx =>
      rw [hX] at vx
      simp only [hX] at h
      cases dx with
      | sl xs =>
        simp [alen] at h; obtain ⟨rfl, rfl⟩ := h
        cases vx with
        | d hd =>
          rcases hd.sl_inv with ⟨rfl, rfl⟩ | ⟨b, off, cap, sz', rfl, hc, hr, hz⟩
          · exact Ran.val S (run _ _ _ hay) (.d (.int _ _))
          · exact Ran.val S (run _ _ _ hay) (.d (.int _ _))
      | nil =>
        simp [alen] at h; obtain ⟨rfl, rfl⟩ := h
        rw [vx.nil_inv] at hay
        exact Ran.val S (run _ _ _ hay) (.d (.int _ _))
      | _ => simp [alen] at h
    | hs hh sz' i' m =>
      rw [hX] at vx
      simp only [hX] at h
      simp [alen] at h; obtain ⟨rfl, rfl⟩ := h
      cases vx with
      | hs => exact Ran.val S (run _ _ _ hay) (.d (.int _ _))
      | hs0 => exact Ran.val S (run _ _ _ hay) (.d (.int _ _))
      | hse => exact Ran.val S (run _ _ _ hay) (.d (.int _ _))
      | rhs => exact Ran.val S (run _ _ _ hay) (.d (.int _ _))
      | rhs0 => exact Ran.val S (run _ _ _ hay) (.d (.int _ _))
      | rhse => exact Ran.val S (run _ _ _ hay) (.d (.int _ _))
      | dhs => exact Ran.val S (run _ _ _ hay) (.d (.int _ _))
    | _ => simp [hX, alen] at h
  · cases hm

theorem r_slen (S : Sim Φ w Z σ st) (hE : ERel Φ w Z σ st ρ a) {o : Oper} {x : AOpd} (hm : mOp P Φ (.slen x) o.op = true) (h : aop C lim (.slen x) ρ st = some (v, st1)) :
    Ran Φ w Z σ st ((execOp a.eval o).run P w) v st1 := by
  obtain ⟨dst, op, ty, pos, aft, g⟩ := o
  cases op <;> try (simp [mOp] at hm; done)
  rename_i c
  obtain ⟨callee, as, ts⟩ := c
  cases callee <;> try (simp [mOp] at hm; done)
  rename_i b
  cases b <;> try (simp [mOp] at hm; done)
  simp only [mOp] at hm
  split at hm
  · rename_i t y hts has
    simp only [Bool.and_eq_true] at hm
    have hu : P.underlying t = some .string := by have := hm.1; split at this <;> simp_all
    have vx := opd hE hm.2
    obtain rfl : ts = #[t] := by cases ts; simp_all
    obtain rfl : as = #[y] := by cases as; simp_all
    simp only [aop] at h
    split at h
    · rename_i l hp
      cases h
      rw [hp] at vx
      obtain ⟨s, hs1, hs2⟩ := vx.str_inv
      have hsz : l.length = s.size := by rw [← hs2, Array.length_toList]; rfl
      refine Ran.val S (x := .int .i64 l.length) ?_ (.d (.int _ _))
      simp [execOp, resolve, invoke, builtin, Builtin.len_, run_underlying hu, hs1, goInt, hsz]
    · cases h
  · cases hm

theorem r_append (S : Sim Φ w Z σ st) (hE : ERel Φ w Z σ st ρ a) {o : Oper} {sz : Nat} {x y : AOpd} (hm : mOp P Φ (.append sz x y) o.op = true) (h : aop C lim (.append sz x y) ρ st = some (v, st1)) :
    Ran Φ w Z σ st ((execOp a.eval o).run P w) v st1 := by
  obtain ⟨dst, op, ty, pos, aft, g⟩ := o
  cases op <;> try (simp [mOp] at hm; done)
  rename_i c
  obtain ⟨callee, as, ts⟩ := c
  cases callee <;> try (simp [mOp] at hm; done)
  rename_i b
  cases b <;> try (simp [mOp] at hm; done)
  simp only [mOp] at hm
  split at hm
  · rename_i t u x' y' hts has
    simp only [Bool.and_eq_true] at hm
    obtain ⟨⟨⟨hes, hu⟩, hx⟩, hy⟩ := hm
    obtain rfl : ts = #[t, u] := by cases ts; simp_all
    obtain rfl : as = #[x', y'] := by cases as; simp_all
    cases hel : elemSz P t with
    | none => simp [hel] at hes
    | some p =>
      obtain ⟨e, s⟩ := p
      simp only [hel, Bool.and_eq_true] at hes
      obtain ⟨⟨hs, hby⟩, hz⟩ := hes
      have hs' : s = sz := by simpa using hs
      subst hs'
      obtain ⟨ti, h1, h2, h3, h4⟩ := elemSz_some hel
      obtain ⟨vs, hvs⟩ := Option.isSome_iff_exists.1 hz
      obtain ⟨i', zv, h5, h6, h7, h8⟩ := zeroOf_some hvs
      rw [h2] at h5; cases h5
      have hb4 : ti.bytes ≤ 4096 := by simpa [h2] using hby
      have hu' : (∃ e', P.underlying u = some (.slice e')) ∨ P.underlying u = some .string := by
        split at hu
        · rename_i e' he'; exact .inl ⟨e', he'⟩
        · rename_i he'; exact .inr he'
        · cases hu
      simp only [aop] at h
      obtain ⟨X', w', Z', σ', g0, g1, g2, g3⟩ := app_sound (P := P) (ty := ty) S h1 h2 h3 h6 h8 hb4 hu' h (opd hE hx) (opd hE hy)
      exact ⟨X', w', Z', σ', .inl (by simp [execOp, resolve, invoke, builtin, g0]), g1, g2, g3⟩
  · cases hm


theorem r_appb (S : Sim Φ w Z σ st) (hE : ERel Φ w Z σ st ρ a) {o : Oper} {sz : Nat} {x y : AOpd} (hm : mOp P Φ (.appb sz x y) o.op = true) (h : aop C lim (.appb sz x y) ρ st = some (v, st1)) :
    Ran Φ w Z σ st ((execOp a.eval o).run P w) v st1 := by
  obtain ⟨dst, op, ty, pos, aft, g⟩ := o
  cases op <;> try (simp [mOp] at hm; done)
  rename_i c
  obtain ⟨callee, as, ts⟩ := c
  cases callee <;> try (simp [mOp] at hm; done)
  rename_i b
  cases b <;> try (simp [mOp] at hm; done)
  simp only [mOp] at hm
  split at hm
  · rename_i t u x' y' hts has
    simp only [Bool.and_eq_true] at hm
    obtain ⟨⟨⟨hes, hu⟩, hx⟩, hy⟩ := hm
    obtain rfl : ts = #[t, u] := by cases ts; simp_all
    obtain rfl : as = #[x', y'] := by cases as; simp_all
    cases hel : elemSz P t with
    | none => simp [hel] at hes
    | some p =>
      obtain ⟨e, s⟩ := p
      simp only [hel, Bool.and_eq_true] at hes
      obtain ⟨⟨hs, hby⟩, hz⟩ := hes
      have hs' : s = sz := by simpa using hs
      subst hs'
      obtain ⟨ti, h1, h2, h3, h4⟩ := elemSz_some hel
      obtain ⟨vs, hvs⟩ := Option.isSome_iff_exists.1 hz
      obtain ⟨i', zv, h5, h6, h7, h8⟩ := zeroOf_some hvs
      rw [h2] at h5; cases h5
      have hb4 : ti.bytes ≤ 4096 := by simpa [h2] using hby
      have hu' : (∃ e', P.underlying u = some (.slice e')) ∨ P.underlying u = some .string := by
        split at hu
        · rename_i e' he'; exact .inl ⟨e', he'⟩
        · rename_i he'; exact .inr he'
        · cases hu
      simp only [aop] at h
      obtain ⟨X', w', Z', σ', g0, g1, g2, g3⟩ := appb_sound (P := P) (ty := ty) S h1 h2 h3 h6 h8 hb4 hu' h (opd hE hx) (opd hE hy)
      exact ⟨X', w', Z', σ', .inl (by simp [execOp, resolve, invoke, builtin, g0]), g1, g2, g3⟩
  · cases hm

end
end Go.Proofs.YtplgdddfhjpojaaGreat.AM

namespace Go.Proofs.YtplgdddfhjpojaaGreat.AM
open Go

section
variable {P : Program} {Φ : Nat → FuncId} {w : World} {Z : Nat → Nat} {σ : Nat → Option (Nat × Nat)} {st st1 : St} {ρ : Nat → AV} {a : Act} {v : AV} {C : Orc} {lim : Nat}

/-- The operands of a slicing against the values. -/
theorem bnds_run (hE : ERel Φ w Z σ st ρ a) {n cap l h : Nat} {isS : Bool} {lo hi : Option AOpd} {lo' hi' : Option Operand} (hlo : mOpt Φ lo lo' = true) (hhi : mOpt Φ hi hi' = true) (hb : bnds ρ n lo hi = some (l, h)) (hc : n ≤ cap) :
    (Instr.sliceBounds isS n cap (lo'.map a.eval) (hi'.map a.eval) none).run P w = .ok (l, h, cap) w ∧ l ≤ h ∧ h ≤ n := by
  unfold bnds at hb
  have hLo : ∀ (r : Int), orV ρ 0 lo = some r → ∀ y code, 0 ≤ r → r ≤ (y : Nat) →
      (match lo'.map a.eval with | some v => Instr.sliceBound v y code | none => (pure 0 : Sem Nat)).run P w = .ok r.toNat w := by
    intro r hr y code h0 h1
    cases lo with
    | none =>
      cases lo' with
      | none => simp [orV] at hr; subst hr; rfl
      | some _ => simp [mOpt] at hlo
    | some x =>
      cases lo' with
      | none => simp [mOpt] at hlo
      | some x' =>
        obtain ⟨k, hk⟩ := aIx_inv hr (opd hE hlo)
        simp only [Option.map_some, hk]
        exact run_sliceBound w k r y code h0 h1
  have hHi : ∀ (r : Int), orV ρ n hi = some r → ∀ code, 0 ≤ r → r ≤ (n : Nat) →
      (match hi'.map a.eval with | some v => Instr.sliceBound v cap code | none => (pure n : Sem Nat)).run P w = .ok r.toNat w := by
    intro r hr code h0 h1
    cases hi with
    | none =>
      cases hi' with
      | none => simp [orV] at hr; subst hr; simp
      | some _ => simp [mOpt] at hhi
    | some x =>
      cases hi' with
      | none => simp [mOpt] at hhi
      | some x' =>
        obtain ⟨k, hk⟩ := aIx_inv hr (opd hE hhi)
        simp only [Option.map_some, hk]
        exact run_sliceBound w k r cap code h0 (by omega)
  split at hb
  · rename_i l' h' hl' hh'
    split at hb
    · rename_i hc'
      cases hb
      obtain ⟨c1, c2, c3⟩ := hc'
      have g1 := hHi h' hh' (if isS then .sliceAcap else .sliceAlen) (by omega) c3
      have g2 := hLo l' hl' h'.toNat .sliceB c1 (by omega)
      refine ⟨?_, by omega, by omega⟩
      unfold Instr.sliceBounds
      cases e1 : hi'.map a.eval with
      | none =>
        cases e2 : lo'.map a.eval with
        | none => simp only [e1] at g1; simp only [e2] at g2; simp at g1 g2 ⊢; omega
        | some v2 => simp only [e1] at g1; simp only [e2] at g2; simp at g1; simp [g1, g2]
      | some v1 =>
        cases e2 : lo'.map a.eval with
        | none => simp only [e1] at g1; simp only [e2] at g2; simp at g2; simp [g1, g2]
        | some v2 => simp only [e1] at g1; simp only [e2] at g2; simp [g1, g2]
    · cases hb
  · cases hb

theorem r_slice (S : Sim Φ w Z σ st) (hE : ERel Φ w Z σ st ρ a) {o : Oper} {sz : Nat} {x : AOpd} {lo hi : Option AOpd} (hm : mOp P Φ (.slice sz x lo hi) o.op = true) (h : aop C lim (.slice sz x lo hi) ρ st = some (v, st1)) :
    Ran Φ w Z σ st ((execOp a.eval o).run P w) v st1 := by
  obtain ⟨dst, op, ty, pos, aft, g⟩ := o
  cases op <;> try (simp [mOp] at hm; done)
  rename_i t y lo' hi' mx
  cases mx <;> try (simp [mOp] at hm; done)
  simp only [mOp, Bool.and_eq_true] at hm
  obtain ⟨⟨⟨hes, hx⟩, hlo⟩, hhi⟩ := hm
  cases hel : elemSz P t with
  | none => simp [hel] at hes
  | some p =>
    obtain ⟨e, s⟩ := p
    have hs : s = sz := by simpa [hel] using hes
    subst hs
    obtain ⟨ti, h1, h2, h3, h4⟩ := elemSz_some hel
    have vx := opd hE hx
    have run : ∀ A n cap l h, a.eval y = .slice A n cap → n ≤ cap → bnds ρ n lo hi = some (l, h) →
        (execOp a.eval { dst := dst, op := .slice t y lo' hi' none, type := ty, pos := pos, after := aft, guard := g }).run P w = .ok (.value (.slice (if cap = l then A else A.map (·.add (l * s))) (h - l) (cap - l))) w ∧ l ≤ h ∧ h ≤ n := by
      intro A n cap l h hy hc hb
      obtain ⟨g1, g2, g3⟩ := bnds_run (P := P) (isS := true) hE hlo hhi hb hc
      refine ⟨?_, g2, g3⟩
      simp only [execOp, Option.map_none, Sem.run_bind, Instr.sliceAt, Instr.slice, run_underlying h1, Result.andThen_ok, hy, g1, sizeOf, typeInfo, run_program, h2, h3, Sem.run_pure]
    generalize hay : a.eval y = X at vx
    simp only [aop, pair2] at h
    cases hsl : slc ρ s (x.ev ρ) lo hi with
    | none => simp [hsl] at h
    | some r =>
      simp [hsl] at h
      obtain ⟨rfl, rfl⟩ := h
      unfold slc at hsl
      cases hX : x.ev ρ with
      | d dx =>
        rw [hX] at vx
        simp only [hX] at hsl
        cases dx with
        | sl xs =>
          simp only at hsl
          cases hb : bnds ρ xs.length lo hi with
          | none => simp [hb] at hsl
          | some lh =>
            obtain ⟨l, h⟩ := lh
            simp only [hb] at hsl
            split at hsl
            · rename_i hk
              cases hsl
              cases vx with
              | d hd =>
                rcases hd.sl_inv with ⟨rfl, rfl⟩ | ⟨b, off, cap, sz', rfl, hc, hr, hz⟩
                · obtain ⟨g1, g2, g3⟩ := run _ _ _ l h hay (Nat.le_refl _) hb
                  simp at g3
                  obtain rfl : h = 0 := g3
                  obtain rfl : l = 0 := by omega
                  exact Ran.val S g1 (.d (by simpa using DRel.sl0))
                · obtain ⟨g1, g2, g3⟩ := run _ _ _ l h hay hc hb
                  have hlen : ((xs.take h).drop l).length = h - l := by simp; omega
                  by_cases hcl : cap = l
                  · have : h = l := by omega
                    subst this
                    have he : (xs.take h).drop h = [] := List.eq_nil_of_length_eq_zero (by omega)
                    rw [if_pos hcl] at g1
                    have hq : DRel w Z (.sl []) (.slice (some ⟨b, off, none⟩) 0 (cap - h)) := DRel.mk_sl (xs := []) (sz := 0) (by simp) (fun i e h => by simp at h) (fun i h => by simp at h)
                    refine Ran.val S g1 (.d ?_)
                    rw [he, Nat.sub_self]; exact hq
                  · rw [if_neg hcl] at g1
                    refine Ran.val S g1 (.d ?_)
                    have hr' := rws_size hr hk
                    have hr2 : Rws w Z b (off + l * s) s ((xs.take h).drop l) := by
                      intro j e' he'
                      have hj := lt_of_getElem? he'
                      rw [List.getElem?_drop, List.getElem?_take_of_lt (by omega)] at he'
                      obtain ⟨k1, k2⟩ := hr' _ e' he'
                      exact ⟨k1, by rw [Nat.add_assoc, ← Nat.add_mul]; exact k2⟩
                    have hz2 : ∀ i, i < ((xs.take h).drop l).length → off + l * s + (i + 1) * s ≤ Z b := by
                      intro i hi'
                      have hlt : l + i < xs.length := by omega
                      have := hz (l + i) hlt
                      have e1 := (hr _ _ (List.getElem?_eq_getElem hlt)).1
                      have e2 := (hr' _ _ (List.getElem?_eq_getElem hlt)).1
                      have : sz' = s := by omega
                      subst this
                      rw [Nat.add_assoc, ← Nat.add_mul]
                      rw [show l + (i + 1) = l + i + 1 by omega]; assumption
                    have := DRel.mk_sl (cap := cap - l) (by omega) hr2 hz2
                    rw [hlen] at this
                    simpa [Addr.add_lit] using this
            · cases hsl
        | nil =>
          simp only at hsl
          cases hb : bnds ρ 0 lo hi with
          | none => simp [hb] at hsl
          | some lh =>
            obtain ⟨l, h⟩ := lh
            simp [hb] at hsl
            subst hsl
            rw [vx.nil_inv] at hay
            obtain ⟨g1, g2, g3⟩ := run _ _ _ l h hay (Nat.le_refl _) hb
            obtain rfl : h = 0 := by omega
            obtain rfl : l = 0 := by omega
            exact Ran.val S g1 (.d (by simpa using DRel.nil))
        | _ => simp at hsl
      | hs hh sz' i' m =>
        rw [hX] at vx
        simp only [hX] at hsl
        cases hb : bnds ρ m lo hi with
        | none => simp [hb] at hsl
        | some lh =>
          obtain ⟨l, h⟩ := lh
          simp only [hb] at hsl
          split at hsl
          · rename_i hsz
            subst hsz
            cases hsl
            cases vx with
            | hs hs ho hn hc hbk =>
              rename_i b o cap es wr
              obtain ⟨g1, g2, g3⟩ := run _ _ _ l h hay hc hb
              by_cases hcl : cap = l
              · have : h = l := by omega
                subst this
                rw [if_pos hcl, Nat.sub_self, show cap - h = 0 by omega] at g1
                rw [Nat.sub_self]
                exact Ran.val S g1 (.hse ho)
              · rw [if_neg hcl] at g1
                refine Ran.val S g1 ?_
                obtain ⟨c, el, k1, k2⟩ := hbk
                have := VRel.hs (Φ := Φ) (w := w) (Z := Z) (i := i' + l) (n := h - l) (cap := cap - l) hs ho (by omega) (by omega) ⟨c, el, k1, by rw [show i' + l + (cap - l) = i' + cap by omega]; exact k2⟩
                rw [Nat.add_mul, ← Nat.add_assoc] at this
                simpa [Addr.add_lit] using this
            | hs0 ho =>
              obtain ⟨g1, g2, g3⟩ := run _ _ _ l h hay (Nat.le_refl _) hb
              obtain rfl : h = 0 := by omega
              obtain rfl : l = 0 := by omega
              exact Ran.val S g1 (by simpa using VRel.hs0 ho)
            | hse ho =>
              obtain ⟨g1, g2, g3⟩ := run _ _ _ l h hay (Nat.le_refl _) hb
              obtain rfl : h = 0 := by omega
              obtain rfl : l = 0 := by omega
              exact Ran.val S g1 (by simpa using VRel.hse ho)
            | rhs hs ho hn hc hbk =>
              rename_i b cap cs
              obtain ⟨g1, g2, g3⟩ := run _ _ _ l h hay hc hb
              by_cases hcl : cap = l
              · have : h = l := by omega
                subst this
                rw [if_pos hcl, Nat.sub_self, show cap - h = 0 by omega] at g1
                rw [Nat.sub_self]
                exact Ran.val S g1 (.rhse ho)
              · rw [if_neg hcl] at g1
                refine Ran.val S g1 ?_
                obtain ⟨c, el, k1, k2⟩ := hbk
                have hle : (i' + l + (h - l)) * sz' ≤ (i' + m) * sz' := Nat.mul_le_mul_right _ (by omega)
                have := VRel.rhs (Φ := Φ) (w := w) (Z := Z) (sz := sz') (i := i' + l) (n := h - l) (cap := cap - l) hs ho (by omega) (by omega) ⟨c, el, k1, by rw [show i' + l + (cap - l) = i' + cap by omega]; exact k2⟩
                rw [Nat.add_mul] at this
                simpa [Addr.add_lit] using this
            | rhs0 ho =>
              obtain ⟨g1, g2, g3⟩ := run _ _ _ l h hay (Nat.le_refl _) hb
              obtain rfl : h = 0 := by omega
              obtain rfl : l = 0 := by omega
              exact Ran.val S g1 (by simpa using VRel.rhs0 ho)
            | rhse ho =>
              obtain ⟨g1, g2, g3⟩ := run _ _ _ l h hay (Nat.le_refl _) hb
              obtain rfl : h = 0 := by omega
              obtain rfl : l = 0 := by omega
              exact Ran.val S g1 (by simpa using VRel.rhse ho)
            | dhs hd hc ha hp =>
              rename_i A cap
              obtain ⟨g1, g2, g3⟩ := run _ _ _ l h hay hc hb
              refine Ran.val S g1 (.dhs hd (by omega) ?_ ?_)
              · intro hA
                cases A with
                | none => have := ha rfl; omega
                | some A => split at hA <;> simp at hA
              · intro x hA
                cases A with
                | none => split at hA <;> simp at hA
                | some A =>
                  have hA' := hp A rfl
                  split at hA
                  · simp at hA; subst hA; exact hA'
                  · simp at hA; subst hA; unfold Addr.add; split <;> simp [hA']
          · cases hsl
      | _ => simp [hX] at hsl

theorem r_strs (S : Sim Φ w Z σ st) (hE : ERel Φ w Z σ st ρ a) {o : Oper} {x : AOpd} {lo hi : Option AOpd} (hm : mOp P Φ (.strs x lo hi) o.op = true) (h : aop C lim (.strs x lo hi) ρ st = some (v, st1)) :
    Ran Φ w Z σ st ((execOp a.eval o).run P w) v st1 := by
  obtain ⟨dst, op, ty, pos, aft, g⟩ := o
  cases op <;> try (simp [mOp] at hm; done)
  rename_i t y lo' hi' mx
  cases mx <;> try (simp [mOp] at hm; done)
  simp only [mOp, Bool.and_eq_true] at hm
  obtain ⟨⟨⟨ht, hx⟩, hlo⟩, hhi⟩ := hm
  have hu : P.underlying t = some .string := by split at ht <;> simp_all
  have vx := opd hE hx
  simp only [aop, pair2] at h
  cases hsl : strs ρ (x.ev ρ) lo hi with
  | none => simp [hsl] at h
  | some r =>
    simp [hsl] at h
    obtain ⟨rfl, rfl⟩ := h
    unfold strs at hsl
    split at hsl
    · rename_i l hX
      rw [hX] at vx
      obtain ⟨s, hs1, hs2⟩ := vx.str_inv
      have hsz : l.length = s.size := by rw [← hs2, Array.length_toList]; rfl
      cases hb : bnds ρ l.length lo hi with
      | none => simp [hb] at hsl
      | some lh =>
        obtain ⟨p, q⟩ := lh
        simp [hb] at hsl
        subst hsl
        obtain ⟨g1, g2, g3⟩ := bnds_run (P := P) (isS := false) (cap := l.length) hE hlo hhi hb (Nat.le_refl _)
        rw [hsz] at g1
        refine Ran.val S (x := .string (s.extract p q)) ?_ (.d (DRel.str' ?_))
        · simp [execOp, hs1, Instr.sliceAt, Instr.slice, run_underlying hu, g1]
        · rw [ByteArray.data_extract]; simp [List.extract_eq_take_drop, hs2, List.drop_take]
    · cases hsl

theorem r_ext (S : Sim Φ w Z σ st) (hE : ERel Φ w Z σ st ρ a) {o : Oper} {x : AOpd} {i : Nat} (hm : mOp P Φ (.ext x i) o.op = true) (h : aop C lim (.ext x i) ρ st = some (v, st1)) :
    Ran Φ w Z σ st ((execOp a.eval o).run P w) v st1 := by
  obtain ⟨dst, op, ty, pos, aft, g⟩ := o
  cases op <;> simp [mOp] at hm
  rename_i y j
  obtain ⟨hx, rfl⟩ := hm
  have vx := opd hE hx
  simp only [aop] at h
  split at h
  · rename_i vs hX
    rw [hX] at vx
    generalize hay : a.eval y = X at vx
    cases vx with
    | tup hl hh =>
      rename_i ws
      cases hv : vs[i]? with
      | none => simp [hv] at h
      | some v' =>
        simp [hv] at h
        obtain ⟨rfl, rfl⟩ := h
        have hlt := lt_of_getElem? hv
        have hw : ws[i]? = some (ws[i]'(by omega)) := Array.getElem?_eq_getElem (by omega)
        exact Ran.val S (x := ws[i]'(by omega)) (by simp [execOp, hay, Instr.extract, hw]) (hh i _ _ hv hw)
  · cases h

theorem r_mkfn (S : Sim Φ w Z σ st) (hE : ERel Φ w Z σ st ρ a) {o : Oper} {f : Nat} {caps : List AOpd} (hm : mOp P Φ (.mkfn f caps) o.op = true) (h : aop C lim (.mkfn f caps) ρ st = some (v, st1)) :
    Ran Φ w Z σ st ((execOp a.eval o).run P w) v st1 := by
  obtain ⟨dst, op, ty, pos, aft, g⟩ := o
  cases op <;> try (simp [mOp] at hm; done)
  rename_i fn first cs
  cases fn <;> try (simp [mOp] at hm; done)
  simp only [mOp, Bool.and_eq_true, beq_iff_eq] at hm
  obtain ⟨⟨rfl, hf⟩, hc⟩ := hm
  simp only [aop, Option.some.injEq, Prod.mk.injEq] at h
  obtain ⟨rfl, rfl⟩ := h
  have hv := opds hE hc
  have hfirst : first = #[] := by simpa using hf
  subst hfirst
  refine Ran.val S (x := .func (.func (Φ f)) #[] (cs.map a.eval)) (by simp [execOp, Instr.makeFunc]) (.fn (by have := hv.1; simpa using this) fun i c v h1 h2 => hv.2 i c v h1 ?_)
  rw [← h2]; simp

theorem r_max (S : Sim Φ w Z σ st) (hE : ERel Φ w Z σ st ρ a) {o : Oper} {x y : AOpd} (hm : mOp P Φ (.max x y) o.op = true) (h : aop C lim (.max x y) ρ st = some (v, st1)) :
    Ran Φ w Z σ st ((execOp a.eval o).run P w) v st1 := by
  obtain ⟨dst, op, ty, pos, aft, g⟩ := o
  cases op <;> try (simp [mOp] at hm; done)
  rename_i c
  obtain ⟨callee, as, ts⟩ := c
  cases callee <;> try (simp [mOp] at hm; done)
  rename_i b
  cases b <;> try (simp [mOp] at hm; done)
  simp only [mOp] at hm
  split at hm
  · rename_i x' y' has
    simp only [Bool.and_eq_true] at hm
    obtain rfl : as = #[x', y'] := by cases as; simp_all
    have vx := opd hE hm.1
    have vy := opd hE hm.2
    simp only [aop] at h
    split at h
    · rename_i k p k' q hp hq
      rw [hp] at vx; rw [hq] at vy
      cases h
      exact Ran.val S (by simp [execOp, resolve, invoke, builtin, vx.int_inv, vy.int_inv, run_max_int2]) (.d (.int _ _))
    · cases h
  · cases hm

theorem r_min (S : Sim Φ w Z σ st) (hE : ERel Φ w Z σ st ρ a) {o : Oper} {x y : AOpd} (hm : mOp P Φ (.min x y) o.op = true) (h : aop C lim (.min x y) ρ st = some (v, st1)) :
    Ran Φ w Z σ st ((execOp a.eval o).run P w) v st1 := by
  obtain ⟨dst, op, ty, pos, aft, g⟩ := o
  cases op <;> try (simp [mOp] at hm; done)
  rename_i c
  obtain ⟨callee, as, ts⟩ := c
  cases callee <;> try (simp [mOp] at hm; done)
  rename_i b
  cases b <;> try (simp [mOp] at hm; done)
  simp only [mOp] at hm
  split at hm
  · rename_i x' y' has
    simp only [Bool.and_eq_true] at hm
    obtain rfl : as = #[x', y'] := by cases as; simp_all
    have vx := opd hE hm.1
    have vy := opd hE hm.2
    simp only [aop] at h
    split at h
    · rename_i k p k' q hp hq
      rw [hp] at vx; rw [hq] at vy
      cases h
      exact Ran.val S (by simp [execOp, resolve, invoke, builtin, vx.int_inv, vy.int_inv, run_min_int2]) (.d (.int _ _))
    · cases h
  · cases hm

/-! ### Structs against each other, new slices, strings out of bytes -/
theorem eqFields_run {cs ds : List AV} {X Y : Array Value} (hX : VRels Φ w Z σ st cs X.toList) (hY : VRels Φ w Z σ st ds Y.toList) :
    ∀ {fs : List Field} {ks : List Nat} {i : Nat} {r : Bool}, mEq P i ks fs = true → deqL ks (cs.drop i) (ds.drop i) = some r → (Op.eqFields 9999 X Y fs).run P w = .ok r w
  | [], [], i, r, _, h => by
    cases h1 : cs.drop i with
    | cons => rw [h1] at h; simp [deqL] at h
    | nil =>
      cases h2 : ds.drop i with
      | cons => rw [h1, h2] at h; simp [deqL] at h
      | nil => rw [h1, h2] at h; simp [deqL] at h; subst h; rfl
  | f :: fs, k :: ks, i, r, hm, h => by
    simp only [mEq, Bool.and_eq_true, bne_iff_ne, ne_eq, beq_iff_eq] at hm
    obtain ⟨⟨⟨⟨hn, ho⟩, hN⟩, hk⟩, hrest⟩ := hm
    cases h1 : cs.drop i with
    | nil => rw [h1] at h; simp [deqL] at h
    | cons x xs =>
      cases h2 : ds.drop i with
      | nil => rw [h1, h2] at h; simp [deqL] at h
      | cons y ys =>
        have ex : cs[i]? = some x := by
          have : (cs.drop i)[0]? = some x := by rw [h1]; rfl
          simpa using this
        have ey : ds[i]? = some y := by
          have : (ds.drop i)[0]? = some y := by rw [h2]; rfl
          simpa using this
        have hxs : xs = cs.drop (i + 1) := by rw [← List.tail_drop, h1]; rfl
        have hys : ys = ds.drop (i + 1) := by rw [← List.tail_drop, h2]; rfl
        rw [h1, h2, hxs, hys] at h
        obtain ⟨u, g1, g2⟩ := part_run (P := P) hN hX (off := i) (v := x) (by simpa [rdC] using ex)
        obtain ⟨u', g3, g4⟩ := part_run (P := P) hN hY (off := i) (v := y) (by simpa [rdC] using ey)
        have step : ∀ {b q : Bool}, (Op.equalIn 9999 f.type u u').run P w = .ok b w → deqL ks (cs.drop (i + 1)) (ds.drop (i + 1)) = some q → r = (b && q) → (Op.eqFields 9999 X Y (f :: fs)).run P w = .ok r w := by
          intro b q hb hq hr
          have ih := eqFields_run hX hY hrest hq
          subst hr
          simp only [Op.eqFields, ho, Sem.run_ite, if_pos hn, Sem.run_bind, g1, g3, Result.andThen_ok, hb]
          cases b
          · simp
          · simpa using ih
        cases hu : P.underlying f.type with
        | none => simp [hu] at hk
        | some T =>
          simp only [hu] at hk
          split at hk
          · rename_i e1 e2
            injection e2 with e2
            subst e2
            cases x with
            | d x =>
              cases x <;> try (simp [deqL] at h; done)
              cases y with
              | d y =>
                cases y <;> try (simp [deqL] at h; done)
                simp only [deqL] at h
                split at h
                case isFalse => cases h
                rename_i hkk
                subst hkk
                cases hq : deqL ks (cs.drop (i + 1)) (ds.drop (i + 1)) with
                | none => rw [hq] at h; simp at h
                | some q =>
                  rw [hq] at h; simp at h
                  refine step ?_ hq h.symm
                  rw [g2.int_inv, g4.int_inv]
                  exact run_equalIn_int w 9998 _ _ _ _ _ hu
              | _ => simp [deqL] at h
            | _ => simp [deqL] at h
          · rename_i e1 e2
            injection e2 with e2
            subst e2
            cases x with
            | d x =>
              cases x <;> try (simp [deqL] at h; done)
              cases y with
              | d y =>
                cases y <;> try (simp [deqL] at h; done)
                simp only [deqL] at h
                cases hq : deqL ks (cs.drop (i + 1)) (ds.drop (i + 1)) with
                | none => rw [hq] at h; simp at h
                | some q =>
                  rw [hq] at h; simp at h
                  refine step ?_ hq h.symm
                  rw [g2.bool_inv, g4.bool_inv]
                  exact run_equalIn_bool' w 9998 _ _ _ hu
              | _ => simp [deqL] at h
            | _ => simp [deqL] at h
          · rename_i e1 e2
            injection e2 with e2
            subst e2
            cases x with
            | d x =>
              cases x <;> try (simp [deqL] at h; done)
              cases y with
              | d y =>
                cases y <;> try (simp [deqL] at h; done)
                simp only [deqL] at h
                cases hq : deqL ks (cs.drop (i + 1)) (ds.drop (i + 1)) with
                | none => rw [hq] at h; simp at h
                | some q =>
                  rw [hq] at h; simp at h
                  refine step ?_ hq h.symm
                  obtain ⟨s, hs1, hs2⟩ := g2.str_inv
                  obtain ⟨s', hs3, hs4⟩ := g4.str_inv
                  rw [hs1, hs3, run_equalIn_string w 9998 _ _ _ hu, ByteArray.toList_eq, ByteArray.toList_eq, hs2, hs4]
              | _ => simp [deqL] at h
            | _ => simp [deqL] at h
          · cases hk
  | [], _ :: _, _, _, hm, _ => by simp [mEq] at hm
  | _ :: _, [], _, _, hm, _ => by simp [mEq] at hm

theorem r_eqs (S : Sim Φ w Z σ st) (hE : ERel Φ w Z σ st ρ a) {o : Oper} {ks : List Nat} {neg : Bool} {x y : AOpd} (hm : mOp P Φ (.eqs ks neg x y) o.op = true) (h : aop C lim (.eqs ks neg x y) ρ st = some (v, st1)) :
    Ran Φ w Z σ st ((execOp a.eval o).run P w) v st1 := by
  obtain ⟨dst, op, ty, pos, aft, g⟩ := o
  cases op <;> simp only [mOp, Bool.false_eq_true] at hm
  rename_i bop' t x' y' t'
  simp only [Bool.and_eq_true, decide_eq_true_eq, Bool.not_eq_true'] at hm
  obtain ⟨⟨⟨⟨⟨⟨rfl, ht⟩, hf⟩, hh⟩, hg⟩, hx⟩, hy⟩ := hm
  have hu : P.underlying t = some (.struct (P.fieldsOf t)) := by
    unfold Program.fieldsOf
    split at ht
    · rename_i fs e; rw [e]
    · cases ht
  have vx := opd hE hx
  have vy := opd hE hy
  simp only [aop] at h
  split at h
  · rename_i cs ds hp hq
    rw [hp] at vx; rw [hq] at vy
    cases hd : deqL ks cs ds with
    | none => rw [hd] at h; cases h
    | some r =>
      rw [hd] at h
      cases h
      generalize hax : a.eval x' = X at vx
      generalize hay : a.eval y' = Y at vy
      cases vx with
      | agg hl hhx =>
        cases vy with
        | agg hl' hhy =>
          rename_i X Y
          have := eqFields_run (P := P) (w := w) (cs := cs) (ds := ds) (X := X) (Y := Y) ⟨by simpa using hl, fun i c v h1 h2 => hhx i c v h1 (by simpa using h2)⟩ ⟨by simpa using hl', fun i c v h1 h2 => hhy i c v h1 (by simpa using h2)⟩ hf (r := r) (by simpa using hd)
          cases neg
          · exact Ran.val S (by simp [execOp, hax, hay, run_eqGuard_agg w _ t _ _ _ _ hg, run_eql_struct, run_equalIn_struct w 9999 t X Y hu hh, this]) (.d (.bool _))
          · exact Ran.val S (by simp [execOp, hax, hay, run_eqGuard_agg w _ t _ _ _ _ hg, run_neq_struct, run_equalIn_struct w 9999 t X Y hu hh, this]) (.d (.bool _))
  · cases h

theorem r_mksl (S : Sim Φ w Z σ st) (hE : ERel Φ w Z σ st ρ a) {o : Oper} {sz : Nat} {z : List D} {n c : AOpd} (hm : mOp P Φ (.mksl sz z n c) o.op = true) (h : aop C lim (.mksl sz z n c) ρ st = some (v, st1)) :
    Ran Φ w Z σ st ((execOp a.eval o).run P w) v st1 := by
  obtain ⟨dst, op, ty, pos, aft, g⟩ := o
  cases op <;> simp only [mOp, Bool.false_eq_true] at hm
  rename_i t n' c'
  simp only [Bool.and_eq_true] at hm
  obtain ⟨⟨hz, hn⟩, hc⟩ := hm
  cases hes : elemSz P t with
  | none => simp [hes] at hz
  | some p =>
    obtain ⟨e, s⟩ := p
    simp only [hes, Bool.and_eq_true] at hz
    obtain ⟨⟨hs, hz⟩, hb⟩ := hz
    obtain ⟨i, h1, h2, h3, h4⟩ := elemSz_some hes
    have hb' : i.bytes ≤ 4096 := by simpa [h2] using hb
    cases hzo : zeroOf P e with
    | none => simp [hzo] at hz
    | some vs =>
      simp only [hzo] at hz
      obtain ⟨i', zv, h5, h6, h7, h8⟩ := zeroOf_some hzo
      rw [h2] at h5; cases h5
      have hsz : s = sz := by simpa using hs
      subst hsz
      have vn := opd hE hn
      have vc := opd hE hc
      simp only [aop] at h
      split at h
      · rename_i l m hl hm'
        split at h
        · rename_i hc'
          obtain ⟨rfl, hl0, hlm⟩ := hc'
          cases h
          obtain ⟨k, hk⟩ := aIx_inv hl vn
          obtain ⟨k', hk'⟩ := aIx_inv hm' vc
          simp only [maxApp] at hlm
          have hbl : (i.bytes : Int) * l ≤ 281474976710656 := by
            have h1 : (i.bytes : Int) * l ≤ 4096 * l := Int.mul_le_mul_of_nonneg_right (by omega) hl0
            omega
          have hr := run_make (P := P) w t e i zv h1 h2 h6 k k' l l hl0 (Int.le_refl _) hbl (by omega)
          have hA : ARel w Z s (List.replicate l.toNat z) (madeCells zv.cells (l.toNat * i.size)) := by
            rw [h3]; exact zero_row (by rw [h7]; exact hz) (by omega) h4
          obtain ⟨σ', k1, k2, k3⟩ := new_arr S e hA (cap := l.toNat) (by simp) (by simp [size_madeCells, h3])
          refine ⟨_, _, Z, σ', .inl ?_, k1, by simpa using k2, k3⟩
          simp [execOp, hk, hk', hr]
        · cases h
      · cases h

theorem r_mkrow (S : Sim Φ w Z σ st) (hE : ERel Φ w Z σ st ρ a) {o : Oper} {sz : Nat} {z : List D} {n c : AOpd} (hm : mOp P Φ (.mkrow sz z n c) o.op = true) (h : aop C lim (.mkrow sz z n c) ρ st = some (v, st1)) :
    Ran Φ w Z σ st ((execOp a.eval o).run P w) v st1 := by
  obtain ⟨dst, op, ty, pos, aft, g⟩ := o
  cases op <;> simp only [mOp, Bool.false_eq_true] at hm
  rename_i t n' c'
  simp only [Bool.and_eq_true] at hm
  obtain ⟨⟨hz, hn⟩, hc⟩ := hm
  cases hes : elemSz P t with
  | none => simp [hes] at hz
  | some p =>
    obtain ⟨e, s⟩ := p
    simp only [hes, Bool.and_eq_true] at hz
    obtain ⟨⟨hs, hz⟩, hb⟩ := hz
    obtain ⟨i, h1, h2, h3, h4⟩ := elemSz_some hes
    have hb' : i.bytes ≤ 4096 := by simpa [h2] using hb
    cases hzo : zeroOf P e with
    | none => simp [hzo] at hz
    | some vs =>
      simp only [hzo] at hz
      obtain ⟨i', zv, h5, h6, h7, h8⟩ := zeroOf_some hzo
      rw [h2] at h5; cases h5
      have hsz : s = sz := by simpa using hs
      subst hsz
      have vn := opd hE hn
      have vc := opd hE hc
      simp only [aop] at h
      split at h
      · rename_i l m hl hm'
        split at h
        · rename_i hc'
          obtain ⟨rfl, hl0, hlm⟩ := hc'
          cases h
          obtain ⟨k, hk⟩ := aIx_inv hl vn
          obtain ⟨k', hk'⟩ := aIx_inv hm' vc
          simp only [maxApp] at hlm
          have hbl : (i.bytes : Int) * l ≤ 281474976710656 := by
            have h1 : (i.bytes : Int) * l ≤ 4096 * l := Int.mul_le_mul_of_nonneg_right (by omega) hl0
            omega
          have hr := run_make (P := P) w t e i zv h1 h2 h6 k k' l l hl0 (Int.le_refl _) hbl (by omega)
          have hA : VRels Φ w Z σ st (rowCells l.toNat z) (madeCells zv.cells (l.toNat * i.size)).toList := by
            rw [h3]; exact zero_cells (by rw [h7]; exact hz) (by omega) h4
          have hsz2 : (madeCells zv.cells (l.toNat * i.size)).size = l.toNat * s := by rw [size_madeCells, h3]
          have hl2 : (rowCells l.toNat z).length = l.toNat * s := by have := hA.1; simp at this; omega
          obtain ⟨σ', k1, k2, k3⟩ := new_rows (sz := s) (n := l.toNat) (cap := l.toNat) S e (by rw [hl2, ← hsz2, ← Array.length_toList, List.take_length]; exact hA) (by omega) (Nat.le_refl _) (by omega)
          refine ⟨_, _, Z, σ', .inl ?_, k1, k2, k3⟩
          simp [execOp, hk, hk', hr]
        · cases h
      · cases h

/-- A slice of nothing with no room. -/
theorem r_slice0 (S : Sim Φ w Z σ st) (hE : ERel Φ w Z σ st ρ a) {o : Oper} {sz : Nat} {x : AOpd} (hm : mOp P Φ (.slice0 sz x) o.op = true) (h : aop C lim (.slice0 sz x) ρ st = some (v, st1)) :
    Ran Φ w Z σ st ((execOp a.eval o).run P w) v st1 := by
  obtain ⟨dst, op, ty, pos, aft, g⟩ := o
  cases op <;> simp only [mOp, Bool.false_eq_true] at hm
  rename_i t y lo hi mx
  simp only [Bool.and_eq_true] at hm
  obtain ⟨⟨⟨⟨hes, hx⟩, hlo⟩, hhi⟩, hmx⟩ := hm
  obtain rfl := zeroOp_inv hhi
  obtain rfl := zeroOp_inv hmx
  obtain rfl : lo = none := by cases lo <;> simp_all
  cases hel : elemSz P t with
  | none => simp [hel] at hes
  | some p =>
    obtain ⟨e, s⟩ := p
    have hs : s = sz := by simpa [hel] using hes
    subst hs
    obtain ⟨ti, h1, h2, h3, h4⟩ := elemSz_some hel
    have vx := opd hE hx
    have run : ∀ A n cap, a.eval y = .slice A n cap →
        (execOp a.eval { dst := dst, op := .slice t y none (some (.const (.int .i64 0))) (some (.const (.int .i64 0))), type := ty, pos := pos, after := aft, guard := g }).run P w = .ok (.value (.slice A 0 0)) w := by
      intro A n cap hy
      have b1 : ∀ k code, (Instr.sliceBound (.int .i64 0) k code).run P w = .ok 0 w := fun k code => by
        have := run_sliceBound (P := P) w .i64 0 k code (Int.le_refl _) (by omega)
        simpa using this
      have hb : (Instr.sliceBounds true n cap none (some (.int .i64 0)) (some (.int .i64 0))).run P w = .ok (0, 0, 0) w := by
        simp [Instr.sliceBounds, b1]
      have he0 : a.eval (.const (.int .i64 0)) = .int .i64 0 := rfl
      simp only [execOp, Option.map_none, Option.map_some, Sem.run_bind, Instr.sliceAt, Instr.slice, run_underlying h1, Result.andThen_ok, hy, he0, hb, sizeOf, typeInfo, run_program, h2, h3, Sem.run_pure]
      simp
    obtain ⟨g1, g2⟩ := new_virtual S s
    have fin : ∀ A n cap, a.eval y = .slice A n cap → (A = none ∨ ∃ b off, A = some ⟨b, off, none⟩) → Ran Φ w Z σ st ((execOp a.eval { dst := dst, op := .slice t y none (some (.const (.int .i64 0))) (some (.const (.int .i64 0))), type := ty, pos := pos, after := aft, guard := g }).run P w) (.hs st.length s 0 0) (st ++ [.arr s [] true]) := by
      intro A n cap hy hA
      refine ⟨_, _, Z, _, .inl (run A n cap hy), g1, ?_, g2⟩
      rcases hA with rfl | ⟨b, off, rfl⟩
      · exact .hs0 get_last
      · exact .hse get_last
    generalize hay : a.eval y = X at vx fin
    simp only [aop] at h
    split at h
    · rename_i xs hp
      cases h
      rw [hp] at vx
      cases vx with
      | d hd =>
        rcases hd.sl_inv with ⟨_, rfl⟩ | ⟨b, off, cap, sz', rfl, _⟩
        · exact fin _ _ _ rfl (.inl rfl)
        · exact fin _ _ _ rfl (.inr ⟨_, _, rfl⟩)
    · rename_i hp
      cases h
      rw [hp] at vx
      exact fin _ _ _ vx.nil_inv (.inl rfl)
    · rename_i hh sz' i n hp
      cases h
      rw [hp] at vx
      cases vx with
      | hs => exact fin _ _ _ rfl (.inr ⟨_, _, rfl⟩)
      | hs0 => exact fin _ _ _ rfl (.inl rfl)
      | hse => exact fin _ _ _ rfl (.inr ⟨_, _, rfl⟩)
      | rhs => exact fin _ _ _ rfl (.inr ⟨_, _, rfl⟩)
      | rhs0 => exact fin _ _ _ rfl (.inl rfl)
      | rhse => exact fin _ _ _ rfl (.inr ⟨_, _, rfl⟩)
      | dhs hd hc ha hp =>
        rename_i A c
        refine fin _ _ _ rfl ?_
        cases A with
        | none => exact .inl rfl
        | some A => have := hp A rfl; exact .inr ⟨A.block, A.off, by cases A; simp_all⟩
    · cases h

theorem bytesOf_spec : ∀ {es : List (List D)} {l : List UInt8}, bytesOf es = some l → ∃ xs : List Int, l = xs.map (fun n => UInt8.ofNat n.toNat) ∧ es = xs.map fun n => [.int .u8 n]
  | [], l, h => by simp [bytesOf] at h; subst h; exact ⟨[], rfl, rfl⟩
  | e :: es, l, h => by
    unfold bytesOf at h
    split at h
    · rename_i e1; cases e1
    · rename_i n es' e1
      cases e1
      cases hb : bytesOf es with
      | none => rw [hb] at h; cases h
      | some l' =>
        rw [hb] at h; cases h
        obtain ⟨xs, rfl, rfl⟩ := bytesOf_spec hb
        exact ⟨n :: xs, rfl, rfl⟩
    · cases h

theorem r_b2s (S : Sim Φ w Z σ st) (hE : ERel Φ w Z σ st ρ a) {o : Oper} {x : AOpd} (hm : mOp P Φ (.b2s x) o.op = true) (h : aop C lim (.b2s x) ρ st = some (v, st1)) :
    Ran Φ w Z σ st ((execOp a.eval o).run P w) v st1 := by
  obtain ⟨dst, op, ty, pos, aft, g⟩ := o
  cases op <;> simp only [mOp, Bool.false_eq_true] at hm
  rename_i src dt x'
  simp only [Bool.and_eq_true] at hm
  obtain ⟨⟨hs, hd⟩, hx⟩ := hm
  have hdt : P.underlying dt = some .string := by split at hd <;> simp_all
  obtain ⟨e, hsrc, he⟩ : ∃ e, P.underlying src = some (.slice e) ∧ P.underlying e = some (.int .u8) := by
    split at hs
    · rename_i e he
      refine ⟨e, he, ?_⟩
      split at hs
      · assumption
      · cases hs
    · cases hs
  have vx := opd hE hx
  generalize hax : a.eval x' = X at vx
  simp only [aop] at h
  cases hb : b2sV st (x.ev ρ) with
  | none => rw [hb] at h; cases h
  | some l =>
    rw [hb] at h; cases h
    have empty : ∀ l' c', X = .slice none l' c' → l = [] → Ran Φ w Z σ st ((execOp a.eval { dst := dst, op := .convert src dt x', type := ty, pos := pos, after := aft, guard := g }).run P w) (.d (.str l)) st := by
      intro l' c' hX hl
      subst hl
      rw [hX] at hax
      exact Ran.val S (x := .string ByteArray.empty) (by simp [execOp, hax, run_convert_bytes_nil w src e hsrc he l' c' dt hdt]) (.d (DRel.str' rfl))
    have full : ∀ b off cap (es : List (List D)), X = .slice (some ⟨b, off, none⟩) es.length cap → Rws w Z b off 1 es → bytesOf es = some l → Ran Φ w Z σ st ((execOp a.eval { dst := dst, op := .convert src dt x', type := ty, pos := pos, after := aft, guard := g }).run P w) (.d (.str l)) st := by
      intro b off cap es hX hr hl
      rw [hX] at hax
      obtain ⟨xs, rfl, rfl⟩ := bytesOf_spec hl
      refine Ran.val S (x := .string (strOfNums xs)) ?_ (.d (DRel.str' (by simp [strOfNums])))
      have := run_convert_bytes_arg (P := P) w src e hsrc he b off xs.length cap xs rfl (fun i hi => ?_) dt hdt
      · simp only [List.length_map] at hax ⊢
        simp only [execOp, hax, Sem.run_bind, this, Result.andThen_ok, Sem.run_pure]
      · obtain ⟨_, h2⟩ := hr i [.int .u8 xs[i]] (by simp [hi])
        obtain ⟨u, g1, g2⟩ := h2 0 (.int .u8 xs[i]) rfl
        cases g2
        simpa [List.getD, hi] using g1
    unfold b2sV at hb
    cases hX : x.ev ρ with
    | d dx =>
      rw [hX] at vx hb
      cases dx with
      | sl xs =>
        simp only [elemsOf] at hb
        cases hk : okSz 1 xs with
        | false => simp [hk] at hb
        | true =>
          simp [hk] at hb
          cases vx with
          | d hd =>
            rcases hd.sl_inv with ⟨rfl, hv⟩ | ⟨b, off, cap, sz', hv, hc, hr, hz⟩
            · simp [bytesOf] at hb; exact empty _ _ hv hb
            · exact full b off cap xs hv (rws_size hr hk) hb
      | nil =>
        simp [elemsOf, bytesOf] at hb
        exact empty _ _ vx.nil_inv hb
      | str l' => simp at hb
      | _ => simp [elemsOf] at hb
    | hs hh sz' i n =>
      rw [hX] at vx hb
      simp only [elemsOf] at hb
      cases ho : st[hh]? with
      | none => simp [ho] at hb
      | some ob =>
        cases ob with
        | arr sz'' es wr =>
          simp only [ho] at hb
          by_cases hc : sz' = 1 ∧ sz'' = 1 ∧ i + n ≤ es.length
          · obtain ⟨rfl, rfl, hin⟩ := hc
            simp [hin] at hb
            cases vx with
            | hs hs ho' hn hc hbk =>
              rename_i b o' cap es' wr'
              rw [ho] at ho'; cases ho'
              rcases S.obj hh _ ho with ⟨h1, h2⟩ | ⟨b', o'', c, el, h1, h2, h3, h4, h5, h6⟩
              · rw [hs] at h2; cases h2
              · rw [hs] at h1; cases h1
                refine full b (o' + i * 1) cap _ ?_ (rows_part h4 hin) hb
                simp; omega
            | hs0 ho' => simp [bytesOf] at hb; exact empty _ _ rfl hb
            | hse ho' =>
              simp [bytesOf] at hb
              rename_i b off es' wr'
              exact full b off 0 [] rfl (fun i e h => by simp at h) (by simp [bytesOf, hb])
            | dhs hd => rw [ho] at hd; cases hd
            | rhs _ hd => rw [ho] at hd; cases hd
            | rhs0 hd => rw [ho] at hd; cases hd
            | rhse hd => rw [ho] at hd; cases hd
          · simp [hc] at hb
        | _ => simp [ho] at hb
    | _ => simp [hX, elemsOf] at hb

theorem aop_ran (S : Sim Φ w Z σ st) (hE : ERel Φ w Z σ st ρ a) {o : Oper} {ao : AOp} (hm : mOp P Φ ao o.op = true) (hnc : ∀ q ms f xs, ao ≠ .call q ms f xs) (hnp : ∀ f xs, ao ≠ .pcall f xs) (hnl : ∀ f xs, ao ≠ .lcall f xs) (hng : ∀ ms f xs g, ao ≠ .callg ms f xs g) (h : aop C lim ao ρ st = some (v, st1)) :
    Ran Φ w Z σ st ((execOp a.eval o).run P w) v st1 := by
  cases ao with
  | mv => exact r_mv S hE hm h
  | pick => exact r_pick S hE hm h
  | alloc => exact r_alloc S hm h
  | box => exact r_box S hE hm h
  | build => exact r_build S hE hm h
  | bslice => exact r_bslice S hE hm h
  | brow => exact r_brow S hE hm h
  | bslq => exact r_bslq S hE hm h
  | isnil => exact r_isnil S hE hm h
  | dsl => exact r_dsl S hE hm h
  | ldb => exact r_ldb S hE hm h
  | ldg => exact r_ldg S hE hm h
  | callg ms f xs g => exact absurd rfl (hng ms f xs g)
  | load => exact r_load S hE hm h
  | store => exact r_store S hE hm h
  | nilc => exact r_nilc S hE hm h
  | bin => exact r_bin S hE hm h
  | eqb => exact r_eqb S hE hm h
  | eqs => exact r_eqs S hE hm h
  | un => exact r_un S hE hm h
  | conv => exact r_conv S hE hm h
  | convs => exact r_convs S hE hm h
  | faddr => exact r_faddr S hE hm h
  | fld => exact r_fld S hE hm h
  | iaddr => exact r_iaddr S hE hm h
  | stri => exact r_stri S hE hm h
  | len => exact r_len S hE hm h
  | slen => exact r_slen S hE hm h
  | append => exact r_append S hE hm h
  | appb => exact r_appb S hE hm h
  | slice0 => exact r_slice0 S hE hm h
  | slice => exact r_slice S hE hm h
  | strs => exact r_strs S hE hm h
  | ext => exact r_ext S hE hm h
  | mkfn => exact r_mkfn S hE hm h
  | max => exact r_max S hE hm h
  | min => exact r_min S hE hm h
  | mksl => exact r_mksl S hE hm h
  | mkrow => exact r_mkrow S hE hm h
  | b2s => exact r_b2s S hE hm h
  | pcall f xs => exact absurd rfl (hnp f xs)
  | lcall f xs => exact absurd rfl (hnl f xs)
  | call q ms f xs => exact absurd rfl (hnc q ms f xs)
  | refuse => simp [aop] at h

end
end Go.Proofs.YtplgdddfhjpojaaGreat.AM

namespace Go.Proofs.YtplgdddfhjpojaaGreat.AM
open Go

/-! ### Lists of handles -/
theorem ddup_pre : ∀ (l acc : List Nat), ∃ t, ddup l acc = acc ++ t
  | [], acc => ⟨[], by simp [ddup]⟩
  | h :: l, acc => by
    simp only [ddup]
    split
    · exact ddup_pre l acc
    · obtain ⟨t, ht⟩ := ddup_pre l (acc ++ [h])
      exact ⟨h :: t, by rw [ht]; simp⟩

theorem ddup_nodup : ∀ (l acc : List Nat), acc.Nodup → (ddup l acc).Nodup
  | [], acc, h => by simpa [ddup] using h
  | x :: l, acc, h => by
    simp only [ddup]
    split
    · exact ddup_nodup l acc h
    · rename_i hx
      refine ddup_nodup l _ ?_
      rw [List.nodup_append]
      exact ⟨h, by simp, fun a ha b hb => by simp at hb; subst hb; intro e; subst e; exact hx ha⟩

theorem ddup_range (m : Nat) (l : List Nat) : ddup (List.range m ++ l) [] = ddup l (List.range m) := by
  have key : ∀ (a b : List Nat), (b ++ a).Nodup → ddup (a ++ l) b = ddup l (b ++ a) := by
    intro a
    induction a with
    | nil => intro b _; simp
    | cons x a ih =>
      intro b hb
      have hx : x ∉ b := by
        rw [List.nodup_append] at hb
        intro hx
        exact hb.2.2 x hx x (by simp) rfl
      simp only [List.cons_append, ddup, hx, if_false]
      rw [ih (b ++ [x]) (by simpa using hb)]
      simp
  have := key (List.range m) [] (by simpa using List.nodup_range)
  simpa using this

theorem reach_nodup (st : St) (l : List Nat) : (reach st l).Nodup := by
  unfold reach
  exact ddup_nodup _ _ (ddup_nodup _ _ (ddup_nodup _ _ List.nodup_nil))

theorem reach_range (st : St) (m : Nat) (l : List Nat) : ∃ t, reach st (List.range m ++ l) = List.range m ++ t := by
  unfold reach
  rw [ddup_range]
  obtain ⟨t1, h1⟩ := ddup_pre l (List.range m)
  obtain ⟨t2, h2⟩ := ddup_pre (boxHs st (ddup l (List.range m))) (ddup l (List.range m))
  obtain ⟨t3, h3⟩ := ddup_pre (boxHs st (ddup (boxHs st (ddup l (List.range m))) (ddup l (List.range m)))) (ddup (boxHs st (ddup l (List.range m))) (ddup l (List.range m)))
  exact ⟨t1 ++ (t2 ++ t3), by rw [h3, h2, h1]; simp⟩

theorem idx_get : ∀ {l : List Nat} {h j : Nat}, idx l h = some j → l[j]? = some h
  | [], h, j, e => by simp [idx] at e
  | a :: l, h, j, e => by
    simp only [idx] at e
    split at e
    · rename_i ha; cases e; subst ha; rfl
    · cases hi : idx l h with
      | none => simp [hi] at e
      | some k =>
        simp [hi] at e; subst e
        simpa using idx_get hi

theorem idx_of_get : ∀ {l : List Nat} {h j : Nat}, l.Nodup → l[j]? = some h → idx l h = some j
  | [], h, j, _, e => by simp at e
  | a :: l, h, j, hn, e => by
    rw [List.nodup_cons] at hn
    cases j with
    | zero => simp at e; subst e; simp [idx]
    | succ j =>
      simp at e
      have hne : a ≠ h := fun q => hn.1 (by subst q; exact List.mem_of_getElem? e)
      simp [idx, hne, idx_of_get hn.2 e]

theorem renL_get (g : Nat → Option Nat) : ∀ (l : List AV) (i : Nat), (renL g l)[i]? = (l[i]?).map (ren g)
  | [], i => by simp [renL]
  | v :: vs, i => by
    cases i with
    | zero => simp [renL]
    | succ i => simp [renL, renL_get g vs i]

theorem renL_length (g : Nat → Option Nat) : ∀ (l : List AV), (renL g l).length = l.length
  | [] => rfl
  | v :: vs => by simp [renL, renL_length g vs]

theorem renS_get (g : Nat → Option Nat) : ∀ (l : List AO) (i : Nat), (renS g l)[i]? = (l[i]?).map (renO g)
  | [], i => by simp [renS]
  | v :: vs, i => by
    cases i with
    | zero => simp [renS]
    | succ i => simp [renS, renS_get g vs i]

theorem renS_length (g : Nat → Option Nat) : ∀ (l : List AO), (renS g l).length = l.length
  | [] => rfl
  | v :: vs => by simp [renS, renS_length g vs]

theorem pickO_get {st : St} : ∀ {l : List Nat} {os : List AO}, pickO st l = some os → os.length = l.length ∧ ∀ j : Nat, os[j]? = (l[j]?).bind (fun h => st[h]?)
  | [], os, h => by simp [pickO] at h; subst h; exact ⟨rfl, fun j => by simp⟩
  | x :: l, os, h => by
    simp only [pickO] at h
    cases h1 : st[x]? with
    | none => simp [h1] at h
    | some o =>
      cases h2 : pickO st l with
      | none => simp [h1, h2] at h
      | some os' =>
        simp [h1, h2] at h
        subst h
        obtain ⟨h3, h4⟩ := pickO_get h2
        refine ⟨by simp [h3], fun j => ?_⟩
        cases j with
        | zero => simp [h1]
        | succ j => simpa using h4 j

theorem renO_le (g : Nat → Option Nat) (o : AO) : OLe o (renO g o) := by cases o <;> simp [renO, OLe, renL_length]
theorem renO_dead {g : Nat → Option Nat} {o : AO} (h : renO g o = .dead) : o = .dead := by cases o <;> simp_all [renO]
theorem renO_liv {g : Nat → Option Nat} {o : AO} : ((∃ cs, renO g o = .box cs) ∨ ∃ sz es, renO g o = .arr sz es true) ↔ ((∃ cs, o = .box cs) ∨ ∃ sz es, o = .arr sz es true) := by
  cases o <;> simp [renO]

section
variable {Φ : Nat → FuncId} {w w' : World} {Z Z' : Nat → Nat} {σ σ' : Nat → Option (Nat × Nat)} {st st' : St}

/-- From one state to a later one whose handles are others. -/
structure Mp (g : Nat → Option Nat) (w : World) (Z : Nat → Nat) (σ : Nat → Option (Nat × Nat)) (st : St) (w' : World) (Z' : Nat → Nat) (σ' : Nat → Option (Nat × Nat)) (st' : St) : Prop where
  zle : ∀ b, Z b ≤ Z' b
  cel : ∀ b off, off < Z b → w'.cell? ⟨b, off, none⟩ = w.cell? ⟨b, off, none⟩
  shp : ∀ (b : Nat) (c : Array Value) (el : TypeId) (fz : Nat × Nat), w.heap[b]? = some (.cells c el fz) → ∃ c', w'.heap[b]? = some (.cells c' el fz) ∧ c'.size = c.size
  sig : ∀ h j, g h = some j → ∀ o, st[h]? = some o → ∃ o', st'[j]? = some o' ∧ OLe o o' ∧ (o' ≠ .dead → σ' j = σ h)

theorem VRel.ren {g : Nat → Option Nat} (m : Mp g w Z σ st w' Z' σ' st') {v : AV} {x : Value} (hv : VRel Φ w Z σ st v x) : VRel Φ w' Z' σ' st' (ren g v) x := by
  have hs : Stays w w' Z Z' := ⟨m.cel, m.zle⟩
  induction hv with
  | d hd => exact .d (hd.mono hs)
  | bptr hs' ho =>
    rename_i h sz i f b cs
    simp only [AM.ren]
    cases hg : g h with
    | none => exact .undef _
    | some j =>
      obtain ⟨o', h1, h2, h3⟩ := m.sig _ _ hg _ ho
      cases o' with
      | box cs' => exact .bptr ((h3 (by simp)).trans hs') h1
      | arr => simp [OLe] at h2
      | dead => exact .dptr h1
  | aptr hs' ho =>
    rename_i h sz i f b o es wr
    simp only [AM.ren]
    cases hg : g h with
    | none => exact .undef _
    | some j =>
      obtain ⟨o', h1, h2, h3⟩ := m.sig _ _ hg _ ho
      cases o' with
      | box cs' => simp [OLe] at h2
      | arr sz' es' wr' => obtain ⟨rfl, _⟩ := h2; exact .aptr ((h3 (by simp)).trans hs') h1
      | dead => exact .dptr h1
  | dptr ho =>
    rename_i h sz i f A
    simp only [AM.ren]
    cases hg : g h with
    | none => exact .undef _
    | some j =>
      obtain ⟨o', h1, h2, h3⟩ := m.sig _ _ hg _ ho
      cases o' <;> simp [OLe] at h2
      exact .dptr h1
  | eptr hz hc => exact .eptr (Nat.le_trans hz (m.zle _)) (hc.mono hs hz)
  | rhs hs' ho hn hc hb =>
    rename_i h sz i n b cap cs
    simp only [AM.ren]
    cases hg : g h with
    | none => exact .undef _
    | some j =>
      obtain ⟨o', h1, h2, h3⟩ := m.sig _ _ hg _ ho
      cases o' with
      | arr sz' es' wr' => simp [OLe] at h2
      | box cs' =>
        have h2 : cs'.length = cs.length := h2
        obtain ⟨c, el, hb1, hb2⟩ := hb
        obtain ⟨c', hc1, hc2⟩ := m.shp _ _ _ _ hb1
        exact .rhs ((h3 (by simp)).trans hs') h1 (by omega) hc ⟨c', el, hc1, by omega⟩
      | dead => exact .dhs h1 hc (by simp) (by simp)
  | rhs0 ho =>
    rename_i h sz cs
    simp only [AM.ren]
    cases hg : g h with
    | none => exact .undef _
    | some j =>
      obtain ⟨o', h1, h2, h3⟩ := m.sig _ _ hg _ ho
      cases o' with
      | arr sz' es' wr' => simp [OLe] at h2
      | box cs' => exact .rhs0 h1
      | dead => exact .dhs h1 (Nat.le_refl _) (by simp) (by simp)
  | rhse ho =>
    rename_i h sz i b off cs
    simp only [AM.ren]
    cases hg : g h with
    | none => exact .undef _
    | some j =>
      obtain ⟨o', h1, h2, h3⟩ := m.sig _ _ hg _ ho
      cases o' with
      | arr sz' es' wr' => simp [OLe] at h2
      | box cs' => exact .rhse h1
      | dead => exact .dhs h1 (Nat.le_refl _) (by simp) (by simp)
  | hs hs' ho hn hc hb =>
    rename_i h sz i n b o cap es wr
    simp only [AM.ren]
    cases hg : g h with
    | none => exact .undef _
    | some j =>
      obtain ⟨o', h1, h2, h3⟩ := m.sig _ _ hg _ ho
      cases o' with
      | box cs' => simp [OLe] at h2
      | arr sz' es' wr' =>
        obtain ⟨rfl, hl⟩ := h2
        obtain ⟨c, el, hb1, hb2⟩ := hb
        obtain ⟨c', hc1, hc2⟩ := m.shp _ _ _ _ hb1
        exact .hs ((h3 (by simp)).trans hs') h1 (by omega) hc ⟨c', el, hc1, by omega⟩
      | dead => exact .dhs h1 hc (by simp) (by simp)
  | hs0 ho =>
    rename_i h sz wr
    simp only [AM.ren]
    cases hg : g h with
    | none => exact .undef _
    | some j =>
      obtain ⟨o', h1, h2, h3⟩ := m.sig _ _ hg _ ho
      cases o' with
      | box cs' => simp [OLe] at h2
      | arr sz' es' wr' =>
        obtain ⟨rfl, hl⟩ := h2
        cases es' with
        | nil => exact .hs0 h1
        | cons => simp at hl
      | dead => exact .dhs h1 (Nat.le_refl _) (by simp) (by simp)
  | hse ho =>
    rename_i h sz i b off es wr
    simp only [AM.ren]
    cases hg : g h with
    | none => exact .undef _
    | some j =>
      obtain ⟨o', h1, h2, h3⟩ := m.sig _ _ hg _ ho
      cases o' with
      | box cs' => simp [OLe] at h2
      | arr sz' es' wr' => obtain ⟨rfl, hl⟩ := h2; exact .hse h1
      | dead => exact .dhs h1 (Nat.le_refl _) (by simp) (by simp)
  | dhs ho hc ha hp =>
    rename_i h sz i n A c
    simp only [AM.ren]
    cases hg : g h with
    | none => exact .undef _
    | some j =>
      obtain ⟨o', h1, h2, h3⟩ := m.sig _ _ hg _ ho
      cases o' <;> simp [OLe] at h2
      exact .dhs h1 hc ha hp
  | fn hl _ ih =>
    simp only [AM.ren]
    refine .fn (by rw [renL_length]; exact hl) fun i c v h1 h2 => ?_
    rw [renL_get] at h1
    obtain ⟨c', h3, rfl⟩ := Option.map_eq_some_iff.1 h1
    exact ih i c' v h3 h2
  | agg hl _ ih =>
    simp only [AM.ren]
    refine .agg (by rw [renL_length]; exact hl) fun i c v h1 h2 => ?_
    rw [renL_get] at h1
    obtain ⟨c', h3, rfl⟩ := Option.map_eq_some_iff.1 h1
    exact ih i c' v h3 h2
  | tup hl _ ih =>
    simp only [AM.ren]
    refine .tup (by rw [renL_length]; exact hl) fun i c v h1 h2 => ?_
    rw [renL_get] at h1
    obtain ⟨c', h3, rfl⟩ := Option.map_eq_some_iff.1 h1
    exact ih i c' v h3 h2
  | nn hd => exact .nn (hd.mono hs)
  | undef v => exact .undef v

theorem VRels.ren {g : Nat → Option Nat} (m : Mp g w Z σ st w' Z' σ' st') {v : List AV} {x : List Value} (hv : VRels Φ w Z σ st v x) : VRels Φ w' Z' σ' st' (renL g v) x :=
  ⟨by rw [renL_length]; exact hv.1, fun i c y h1 h2 => by
    rw [renL_get] at h1
    obtain ⟨c', h3, rfl⟩ := Option.map_eq_some_iff.1 h1
    exact (hv.2 i c' y h3 h2).ren m⟩

/-! ### A part of the memory, numbered anew -/
def σo (σ : Nat → Option (Nat × Nat)) (ord : List Nat) : Nat → Option (Nat × Nat) := fun j => (ord[j]?).bind σ

theorem sub_mp {ord : List Nat} {os : List AO} (hp : pickO st ord = some os) : Mp (idx ord) w Z σ st w Z (σo σ ord) (renS (idx ord) os) where
  zle _ := Nat.le_refl _
  cel _ _ _ := rfl
  shp _ c _ _ h := ⟨c, h, rfl⟩
  sig h j hg o ho := by
    have hj := idx_get hg
    refine ⟨renO (idx ord) o, ?_, renO_le _ _, fun _ => by simp [σo, hj]⟩
    rw [renS_get, (pickO_get hp).2 j, hj]
    simp [ho]

theorem sub_get {ord : List Nat} {os : List AO} (hp : pickO st ord = some os) {j : Nat} {o : AO} (h : (renS (idx ord) os)[j]? = some o) : ∃ k x, ord[j]? = some k ∧ st[k]? = some x ∧ o = renO (idx ord) x := by
  rw [renS_get, (pickO_get hp).2 j] at h
  cases hk : ord[j]? with
  | none => simp [hk] at h
  | some k =>
    cases hx : st[k]? with
    | none => simp [hk, hx] at h
    | some x => simp [hk, hx] at h; exact ⟨k, x, rfl, hx, h.symm⟩

theorem sub_liv {ord : List Nat} {os : List AO} (hp : pickO st ord = some os) {j : Nat} (h : liv (renS (idx ord) os) j) : ∃ k, ord[j]? = some k ∧ liv st k := by
  rcases h with ⟨cs, h⟩ | ⟨sz, es, h⟩
  · obtain ⟨k, x, h1, h2, h3⟩ := sub_get hp h
    cases x <;> simp [renO] at h3
    exact ⟨k, h1, .inl ⟨_, h2⟩⟩
  · obtain ⟨k, x, h1, h2, h3⟩ := sub_get hp h
    cases x <;> simp [renO] at h3
    obtain ⟨rfl, rfl, rfl⟩ := h3
    exact ⟨k, h1, .inr ⟨_, _, h2⟩⟩

theorem Sim.sub (S : Sim Φ w Z σ st) {ord : List Nat} {os : List AO} (hn : ord.Nodup) (hp : pickO st ord = some os) : Sim Φ w Z (σo σ ord) (renS (idx ord) os) where
  obj j o ho := by
    obtain ⟨k, x, h1, h2, rfl⟩ := sub_get hp ho
    have hσ : σo σ ord j = σ k := by simp [σo, h1]
    cases x with
    | box cs =>
      rcases S.obj k _ h2 with ⟨g1, g2⟩ | ⟨b, c, el, g1, g2, g3, g4⟩
      · subst g1
        exact .inl ⟨rfl, hσ.trans g2⟩
      · exact .inr ⟨b, c, el, hσ.trans g1, g2, g3, by rw [renL_length]; exact g4.ren (sub_mp hp)⟩
    | dead => trivial
    | arr sz es wr =>
      rcases S.obj k _ h2 with ⟨g1, g2⟩ | ⟨b, o', c, el, g1, g2⟩
      · exact .inl ⟨g1, hσ.trans g2⟩
      · exact .inr ⟨b, o', c, el, hσ.trans g1, g2⟩
  dis j j' b o o' l l' s s' := by
    obtain ⟨k, h1, h2⟩ := sub_liv hp l
    obtain ⟨k', h1', h2'⟩ := sub_liv hp l'
    have : k = k' := S.dis k k' b o o' h2 h2' (by simpa [σo, h1] using s) (by simpa [σo, h1'] using s')
    subst this
    have e1 := idx_of_get hn h1
    have e2 := idx_of_get hn h1'
    rw [e1] at e2; cases e2; rfl
  z := S.z

theorem sub_own {ord : List Nat} {os : List AO} (hp : pickO st ord = some os) {b : Nat} (h : own (σo σ ord) (renS (idx ord) os) b) : ∃ k o, k ∈ ord ∧ liv st k ∧ σ k = some (b, o) := by
  obtain ⟨j, o, l, s⟩ := h
  obtain ⟨k, h1, h2⟩ := sub_liv hp l
  exact ⟨k, o, List.mem_of_getElem? h1, h2, by simpa [σo, h1] using s⟩

theorem gc_sound (S : Sim Φ w Z σ st) {m : Nat} {vs vs' : List AV} {xs : List Value} {st' : St} (h : gc m vs st = some (vs', st')) (hv : VRels Φ w Z σ st vs xs) :
    ∃ σ', Sim Φ w Z σ' st' ∧ VRels Φ w Z σ' st' vs' xs ∧ Ext m w Z σ st w Z σ' st' ∧ m ≤ st'.length := by
  unfold gc at h
  simp only at h
  split at h
  · rename_i os hp
    cases h
    have hn := reach_nodup st (List.range m ++ hOfL vs)
    obtain ⟨t, ht⟩ := reach_range st m (hOfL vs)
    refine ⟨_, S.sub hn hp, hv.ren (sub_mp hp), ⟨Nat.le_refl _, fun _ => Nat.le_refl _, fun _ _ _ => rfl, fun _ _ _ => rfl, fun _ _ _ => rfl, fun _ c _ _ h => ⟨c, h, rfl⟩, fun b _ ho => ?_, fun h hh o ho => ?_, rfl, rfl⟩, ?_⟩
    · obtain ⟨k, o, _, h1, h2⟩ := sub_own hp ho
      exact ⟨k, o, h1, h2⟩
    · have hg : (reach st (List.range m ++ hOfL vs))[h]? = some h := by
        rw [ht, List.getElem?_append_left (by simpa using hh)]; simp [hh]
      exact (sub_mp (w := w) (Z := Z) hp).sig h h (idx_of_get hn hg) o ho
    · rw [renS_length, (pickO_get hp).1, ht]; simp
  · cases h

end
end Go.Proofs.YtplgdddfhjpojaaGreat.AM

namespace Go.Proofs.YtplgdddfhjpojaaGreat.AM
open Go

section
variable {P : Program} {Φ : Nat → FuncId} {w w' : World} {Z Z' Z1 : Nat → Nat} {σ σ' : Nat → Option (Nat × Nat)} {st st' st1 : St}

/-! ### Hints -/
theorem conv1_sound (S : Sim Φ w Z σ st) {cv : CV} {v v' : AV} {x : Value} (h : conv1 cv v st = some (v', st1)) (hv : VRel Φ w Z σ st v x) :
    ∃ Z' σ', Sim Φ w Z' σ' st1 ∧ VRel Φ w Z' σ' st1 v' x ∧ Ext st.length w Z σ st w Z' σ' st1 ∧ st.length ≤ st1.length := by
  cases cv with
  | keep => simp [conv1] at h; obtain ⟨rfl, rfl⟩ := h; exact ⟨Z, σ, S, hv, Ext.refl _ _ _ _ _, Nat.le_refl _⟩
  | fz =>
    simp only [conv1] at h
    split at h
    · rename_i hh sz i n
      cases hf : frz1 st (.hs hh sz i n) with
      | none => simp [hf] at h
      | some r =>
        obtain ⟨d, st2⟩ := r
        simp [hf] at h
        obtain ⟨rfl, rfl⟩ := h
        obtain ⟨Z', h1, h2, h3, _, h4⟩ := frz1_sound S hf hv
        exact ⟨Z', σ, h1, .d h3, h2, by omega⟩
    · cases h
      rw [hv.nil_inv]
      exact ⟨Z, σ, S, .d .sl0, Ext.refl _ _ _ _ _, Nat.le_refl _⟩
    · cases h; exact ⟨Z, σ, S, hv, Ext.refl _ _ _ _ _, Nat.le_refl _⟩
  | ow sz =>
    simp only [conv1] at h
    split at h
    · cases h
      rw [hv.nil_inv]
      obtain ⟨g1, g2⟩ := new_virtual S sz
      exact ⟨Z, _, g1, .hs0 get_last, g2, by simp⟩
    · cases h; exact ⟨Z, σ, S, hv, Ext.refl _ _ _ _ _, Nat.le_refl _⟩
  | owb sz =>
    simp only [conv1] at h
    split at h
    · cases h
      rw [hv.nil_inv]
      obtain ⟨g1, g2⟩ := new_vbox S
      exact ⟨Z, _, g1, .rhs0 get_last, g2, by simp⟩
    · cases h; exact ⟨Z, σ, S, hv, Ext.refl _ _ _ _ _, Nat.le_refl _⟩

theorem convL_sound : ∀ {vs vs' : List AV} {xs : List Value} {cvs : List CV} {st st1 : St} {Z : Nat → Nat} {σ : Nat → Option (Nat × Nat)}, Sim Φ w Z σ st → convL cvs vs st = some (vs', st1) → VRels Φ w Z σ st vs xs →
    ∃ Z' σ', Sim Φ w Z' σ' st1 ∧ VRels Φ w Z' σ' st1 vs' xs ∧ Ext st.length w Z σ st w Z' σ' st1 ∧ st.length ≤ st1.length
  | [], vs', xs, cvs, st, st1, Z, σ, S, h, hv => by
    simp [convL] at h; obtain ⟨rfl, rfl⟩ := h
    exact ⟨Z, σ, S, hv, Ext.refl _ _ _ _ _, Nat.le_refl _⟩
  | v :: vs, vs', xs, cvs, st, st1, Z, σ, S, h, hv => by
    obtain ⟨x, xs', rfl, hx, hxs⟩ := VRels.cons_inv hv
    simp only [convL] at h
    cases h1 : conv1 (cvs.headD .fz) v st with
    | none => simp only [h1] at h; cases h
    | some r =>
      obtain ⟨v1, st2⟩ := r
      simp only [h1] at h
      cases h2 : convL cvs.tail vs st2 with
      | none => simp only [h2] at h; cases h
      | some r2 =>
        obtain ⟨vs2, st3⟩ := r2
        simp only [h2] at h
        cases h
        obtain ⟨Z1, σ1, S1, hv1, E1, l1⟩ := conv1_sound S h1 hx
        obtain ⟨Z2, σ2, S2, hv2, E2, l2⟩ := convL_sound S1 h2 (hxs.mono E1)
        exact ⟨Z2, σ2, S2, .cons (hv1.mono E2) hv2, E1.trans (E2.le l1), Nat.le_trans l1 l2⟩

theorem convV_sound (S : Sim Φ w Z σ st) {cvs : List CV} {v v' : AV} {x : Value} (h : convV cvs v st = some (v', st1)) (hv : VRel Φ w Z σ st v x) :
    ∃ Z' σ', Sim Φ w Z' σ' st1 ∧ VRel Φ w Z' σ' st1 v' x ∧ Ext st.length w Z σ st w Z' σ' st1 ∧ st.length ≤ st1.length := by
  by_cases hc : ∃ cs, v = .agg cs
  · obtain ⟨cs, rfl⟩ := hc
    simp only [convV] at h
    cases h1 : convL cvs cs st with
    | none => simp only [h1] at h; cases h
    | some r =>
      obtain ⟨cs1, st2⟩ := r
      simp only [h1] at h
      cases h
      cases hv with
      | agg hl hh =>
        rename_i vs
        have hvs : VRels Φ w Z σ st cs vs.toList := ⟨by simpa using hl, fun i c y h2 h3 => hh i c y h2 (by simpa using h3)⟩
        obtain ⟨Z1, σ1, S1, hv1, E1, l1⟩ := convL_sound S h1 hvs
        exact ⟨Z1, σ1, S1, .agg (by have := hv1.1; simpa using this) (fun i c y h2 h3 => hv1.2 i c y h2 (by simpa using h3)), E1, l1⟩
  · have : convV cvs v st = conv1 (cvs.headD .fz) v st := by
      cases v <;> first | rfl | (exact absurd ⟨_, rfl⟩ hc)
    rw [this] at h
    exact conv1_sound S h hv

theorem convVs_sound : ∀ {vs vs' : List AV} {xs : List Value} {cvs : List (List CV)} {st st1 : St} {Z : Nat → Nat} {σ : Nat → Option (Nat × Nat)}, Sim Φ w Z σ st → convVs cvs vs st = some (vs', st1) → VRels Φ w Z σ st vs xs →
    ∃ Z' σ', Sim Φ w Z' σ' st1 ∧ VRels Φ w Z' σ' st1 vs' xs ∧ Ext st.length w Z σ st w Z' σ' st1 ∧ st.length ≤ st1.length
  | [], vs', xs, cvs, st, st1, Z, σ, S, h, hv => by
    simp [convVs] at h; obtain ⟨rfl, rfl⟩ := h
    exact ⟨Z, σ, S, hv, Ext.refl _ _ _ _ _, Nat.le_refl _⟩
  | v :: vs, vs', xs, cvs, st, st1, Z, σ, S, h, hv => by
    obtain ⟨x, xs', rfl, hx, hxs⟩ := VRels.cons_inv hv
    simp only [convVs] at h
    cases h1 : convV (cvs.headD []) v st with
    | none => simp only [h1] at h; cases h
    | some r =>
      obtain ⟨v1, st2⟩ := r
      simp only [h1] at h
      cases h2 : convVs cvs.tail vs st2 with
      | none => simp only [h2] at h; cases h
      | some r2 =>
        obtain ⟨vs2, st3⟩ := r2
        simp only [h2] at h
        cases h
        obtain ⟨Z1, σ1, S1, hv1, E1, l1⟩ := convV_sound S h1 hx
        obtain ⟨Z2, σ2, S2, hv2, E2, l2⟩ := convVs_sound S1 h2 (hxs.mono E1)
        exact ⟨Z2, σ2, S2, .cons (hv1.mono E2) hv2, E1.trans (E2.le l1), Nat.le_trans l1 l2⟩

/-! ### What is lent -/
theorem frzAll_sound : ∀ {bl : List Nat} {st : St} {Z : Nat → Nat}, Sim Φ w Z σ st →
    ∃ Z', Sim Φ w Z' σ (frzAll st bl) ∧ Ext st.length w Z σ st w Z' σ (frzAll st bl) ∧ (frzAll st bl).length = st.length ∧
      ∀ h sz es wr, st[h]? = some (.arr sz es wr) → ∃ wr', (frzAll st bl)[h]? = some (.arr sz es wr') ∧ (wr = false → wr' = false) ∧ (h ∈ bl → wr' = false)
  | [], st, Z, S => ⟨Z, S, Ext.refl _ _ _ _ _, rfl, fun h sz es wr hx => ⟨wr, hx, id, fun q => by cases q⟩⟩
  | k :: bl, st, Z, S => by
    have other : (∀ sz es wr, st[k]? ≠ some (.arr sz es wr)) → frzAll st (k :: bl) = frzAll st bl := by
      intro hk
      simp only [frzAll]
    by_cases hk : ∃ sz es wr, st[k]? = some (.arr sz es wr)
    · obtain ⟨sz, es, wr, hx⟩ := hk
      have e : frzAll st (k :: bl) = frzAll (st.set k (.arr sz es false)) bl := by simp only [frzAll, hx]
      obtain ⟨Z1, S1, E1, _⟩ := S.frzAny hx
      obtain ⟨Z2, S2, E2, l2, F2⟩ := frzAll_sound (bl := bl) S1
      rw [e]
      have hl : (st.set k (.arr sz es false)).length = st.length := by simp
      rw [hl] at E2 l2
      refine ⟨Z2, S2, E1.trans E2, l2, fun h sz' es' wr' hh => ?_⟩
      by_cases hkh : h = k
      · subst hkh
        rw [hx] at hh; cases hh
        obtain ⟨wr2, g1, g2, g3⟩ := F2 h sz es false (by rw [get_set hx]; simp)
        exact ⟨wr2, g1, fun _ => g2 rfl, fun _ => g2 rfl⟩
      · obtain ⟨wr2, g1, g2, g3⟩ := F2 h sz' es' wr' (by rw [get_set hx]; simp [hkh]; exact hh)
        exact ⟨wr2, g1, g2, fun hm => by
          cases hm with
          | head => exact absurd rfl hkh
          | tail _ hm => exact g3 hm⟩
    · have hk' : ∀ sz es wr, st[k]? ≠ some (.arr sz es wr) := fun sz es wr hx => hk ⟨sz, es, wr, hx⟩
      rw [other hk']
      obtain ⟨Z2, S2, E2, l2, F2⟩ := frzAll_sound (bl := bl) S
      refine ⟨Z2, S2, E2, l2, fun h sz' es' wr' hh => ?_⟩
      obtain ⟨wr2, g1, g2, g3⟩ := F2 h sz' es' wr' hh
      exact ⟨wr2, g1, g2, fun hm => by
        cases hm with
        | head => exact absurd hh (hk' sz' es' wr')
        | tail _ hm => exact g3 hm⟩

theorem brw1_sound (S1 : Sim Φ w Z1 σ st1) (E1 : Ext st.length w Z σ st w Z1 σ st1) {bl b : List Nat} (F : ∀ h sz es wr, st[h]? = some (.arr sz es wr) → h ∈ bl → st1[h]? = some (.arr sz es false))
    (hb : ∀ h ∈ b, h ∈ bl) {v v' : AV} {x : Value} (h : brw1 st v = some (v', b)) (hv : VRel Φ w Z σ st v x) : VRel Φ w Z1 σ st1 v' x := by
  unfold brw1 at h
  split at h
  · rename_i hh sz i n
    split at h
    · rename_i sz' es wr hx
      split at h
      · rename_i hc
        obtain ⟨rfl, hin⟩ := hc
        cases h
        exact .d (S1.frozen_read (F hh sz' es wr hx (hb hh (by simp))) hin (hv.mono E1))
      · cases h
    · cases h
  · cases h
    rw [hv.nil_inv]; exact .d .sl0
  · cases h; exact hv.mono E1

theorem brwL_sound (S1 : Sim Φ w Z1 σ st1) (E1 : Ext st.length w Z σ st w Z1 σ st1) {bl : List Nat} (F : ∀ h sz es wr, st[h]? = some (.arr sz es wr) → h ∈ bl → st1[h]? = some (.arr sz es false)) :
    ∀ {vs vs' : List AV} {xs : List Value} {b : List Nat}, (∀ h ∈ b, h ∈ bl) → brwL st vs = some (vs', b) → VRels Φ w Z σ st vs xs → VRels Φ w Z1 σ st1 vs' xs
  | [], vs', xs, b, _, h, hv => by
    simp [brwL] at h; obtain ⟨rfl, rfl⟩ := h
    rw [VRels.nil_inv hv]; exact .nil
  | v :: vs, vs', xs, b, hb, h, hv => by
    obtain ⟨x, xs', rfl, hx, hxs⟩ := VRels.cons_inv hv
    simp only [brwL] at h
    cases h1 : brw1 st v with
    | none => simp only [h1] at h; cases h
    | some r =>
      obtain ⟨v1, b1⟩ := r
      simp only [h1] at h
      cases h2 : brwL st vs with
      | none => simp only [h2] at h; cases h
      | some r2 =>
        obtain ⟨vs2, b2⟩ := r2
        simp only [h2] at h
        cases h
        exact .cons (brw1_sound S1 E1 F (fun h hh => hb h (by simp [hh])) h1 hx) (brwL_sound S1 E1 F (fun h hh => hb h (by simp [hh])) h2 hxs)

theorem brw_sound (S1 : Sim Φ w Z1 σ st1) (E1 : Ext st.length w Z σ st w Z1 σ st1) {bl b : List Nat} (F : ∀ h sz es wr, st[h]? = some (.arr sz es wr) → h ∈ bl → st1[h]? = some (.arr sz es false))
    (hb : ∀ h ∈ b, h ∈ bl) {v v' : AV} {x : Value} (h : brw st v = some (v', b)) (hv : VRel Φ w Z σ st v x) : VRel Φ w Z1 σ st1 v' x := by
  by_cases hc : ∃ cs, v = .agg cs
  · obtain ⟨cs, rfl⟩ := hc
    simp only [brw] at h
    cases h1 : brwL st cs with
    | none => simp only [h1] at h; cases h
    | some r =>
      obtain ⟨cs1, b1⟩ := r
      simp only [h1] at h
      cases h
      cases hv with
      | agg hl hh =>
        rename_i vs
        have := brwL_sound S1 E1 F hb h1 (xs := vs.toList) ⟨by simpa using hl, fun i c y h2 h3 => hh i c y h2 (by simpa using h3)⟩
        exact .agg (by have := this.1; simpa using this) (fun i c y h2 h3 => this.2 i c y h2 (by simpa using h3))
  · have : brw st v = brw1 st v := by
      cases v <;> first | rfl | (exact absurd ⟨_, rfl⟩ hc)
    rw [this] at h
    exact brw1_sound S1 E1 F hb h hv

theorem brwA_sound (S1 : Sim Φ w Z1 σ st1) (E1 : Ext st.length w Z σ st w Z1 σ st1) {bl : List Nat} (F : ∀ h sz es wr, st[h]? = some (.arr sz es wr) → h ∈ bl → st1[h]? = some (.arr sz es false)) :
    ∀ {vs vs' : List AV} {ms : List Bool} {xs : List Value} {b : List Nat}, (∀ h ∈ b, h ∈ bl) → brwA st ms vs = some (vs', b) → VRels Φ w Z σ st vs xs → VRels Φ w Z1 σ st1 vs' xs
  | [], vs', ms, xs, b, _, h, hv => by
    simp [brwA] at h; obtain ⟨rfl, rfl⟩ := h
    rw [VRels.nil_inv hv]; exact .nil
  | v :: vs, vs', ms, xs, b, hb, h, hv => by
    obtain ⟨x, xs', rfl, hx, hxs⟩ := VRels.cons_inv hv
    simp only [brwA] at h
    cases h1 : (if ms.headD false = true then some (v, []) else brw st v) with
    | none => simp only [h1] at h; cases h
    | some r =>
      obtain ⟨v1, b1⟩ := r
      simp only [h1] at h
      cases h2 : brwA st ms.tail vs with
      | none => simp only [h2] at h; cases h
      | some r2 =>
        obtain ⟨vs2, b2⟩ := r2
        simp only [h2] at h
        cases h
        refine .cons ?_ (brwA_sound S1 E1 F (fun h hh => hb h (by simp [hh])) h2 hxs)
        split at h1
        · cases h1; exact hx.mono E1
        · exact brw_sound S1 E1 F (fun h hh => hb h (by simp [hh])) h1 hx

/-! ### What comes back -/
mutual
theorem noSl_rel {Z2 : Nat → Nat} {σ2 : Nat → Option (Nat × Nat)} {st2 : St} {w2 : World} : ∀ (v : AV) (x : Value), noSl v = true → VRel Φ w Z σ st v x → VRel Φ w2 Z2 σ2 st2 v x
  | .d y, x, hn, hv => by
    cases hv with
    | d hd =>
      cases hd <;> simp [noSl] at hn
      · exact .d (.int _ _)
      · exact .d (.bool _)
      · exact .d (.str _)
  | .agg cs, x, hn, hv => by
    cases hv with
    | agg hl hh =>
      rename_i vs
      simp only [noSl] at hn
      have := noSlL_rel (Z2 := Z2) (σ2 := σ2) (st2 := st2) (w2 := w2) cs vs.toList hn ⟨by simpa using hl, fun i c y h2 h3 => hh i c y h2 (by simpa using h3)⟩
      exact .agg hl (fun i c y h2 h3 => this.2 i c y h2 (by simpa using h3))
  | .tup cs, x, hn, hv => by
    cases hv with
    | tup hl hh =>
      rename_i vs
      simp only [noSl] at hn
      have := noSlL_rel (Z2 := Z2) (σ2 := σ2) (st2 := st2) (w2 := w2) cs vs.toList hn ⟨by simpa using hl, fun i c y h2 h3 => hh i c y h2 (by simpa using h3)⟩
      exact .tup hl (fun i c y h2 h3 => this.2 i c y h2 (by simpa using h3))
  | .ptr .., x, hn, hv => by simp [noSl] at hn
  | .eptr .., x, hn, hv => by simp [noSl] at hn
  | .hs .., x, hn, hv => by simp [noSl] at hn
  | .fn .., x, hn, hv => by simp [noSl] at hn
  | .undef, x, hn, hv => by simp [noSl] at hn
theorem noSlL_rel {Z2 : Nat → Nat} {σ2 : Nat → Option (Nat × Nat)} {st2 : St} {w2 : World} : ∀ (vs : List AV) (xs : List Value), noSlL vs = true → VRels Φ w Z σ st vs xs → VRels Φ w2 Z2 σ2 st2 vs xs
  | [], xs, _, hv => by rw [VRels.nil_inv hv]; exact .nil
  | v :: vs, xs, hn, hv => by
    obtain ⟨x, xs', rfl, hx, hxs⟩ := VRels.cons_inv hv
    simp only [noSlL, Bool.and_eq_true] at hn
    exact .cons (noSl_rel v x hn.1 hx) (noSlL_rel vs xs' hn.2 hxs)
end

theorem setAll_length : ∀ (st : St) (hs : List Nat) (os : List AO), (setAll st hs os).length = st.length
  | st, [], os => by simp [setAll]
  | st, h :: hs, [] => by simp [setAll]
  | st, h :: hs, o :: os => by simp [setAll, setAll_length _ hs os]

theorem setAll_other : ∀ (st : St) (hs : List Nat) (os : List AO) (k : Nat), k ∉ hs → (setAll st hs os)[k]? = st[k]?
  | st, [], os, k, _ => by simp [setAll]
  | st, h :: hs, [], k, _ => by simp [setAll]
  | st, h :: hs, o :: os, k, hk => by
    simp only [setAll]
    rw [setAll_other _ hs os k (fun q => hk (by simp [q])), List.getElem?_set_ne (fun q => hk (by simp [q]))]

theorem setAll_get : ∀ (st : St) (hs : List Nat) (os : List AO) (j k : Nat), hs.Nodup → hs[j]? = some k → k < st.length → hs.length ≤ os.length → (setAll st hs os)[k]? = os[j]?
  | st, [], os, j, k, _, h, _, _ => by simp at h
  | st, h :: hs, [], j, k, _, _, _, hl => by simp at hl
  | st, h :: hs, o :: os, j, k, hn, hj, hk, hl => by
    rw [List.nodup_cons] at hn
    simp only [setAll]
    cases j with
    | zero =>
      simp at hj; subst hj
      rw [setAll_other _ hs os h hn.1]
      simp [hk]
    | succ j =>
      simp at hj
      rw [setAll_get _ hs os j k hn.2 hj (by simpa using hk) (by simpa using hl)]
      simp

/-- The caller's memory behind a call: the callee's objects at their handles, the others as they were. -/
theorem merge_sound {ord : List Nat} {os : List AO} {σc : Nat → Option (Nat × Nat)} (S1 : Sim Φ w Z σ st) (hn : ord.Nodup) (hp : pickO st ord = some os)
    (Sc : Sim Φ w' Z' σc st') (Ec : Ext ord.length w Z (σo σ ord) (renS (idx ord) os) w' Z' σc st') (hl : ord.length ≤ st'.length) :
    ∃ σm, Sim Φ w' Z' σm (setAll st ord (renS (back ord st.length) st') ++ renS (back ord st.length) (st'.drop ord.length)) ∧
      Ext st.length w Z σ st w' Z' σm (setAll st ord (renS (back ord st.length) st') ++ renS (back ord st.length) (st'.drop ord.length)) ∧
      ∀ v x, VRel Φ w' Z' σc st' v x → VRel Φ w' Z' σm (setAll st ord (renS (back ord st.length) st') ++ renS (back ord st.length) (st'.drop ord.length)) (ren (back ord st.length) v) x := by
  have hbound : ∀ (j k : Nat), ord[j]? = some k → k < st.length := by
    intro j k hj
    obtain ⟨h1, h2⟩ := pickO_get hp
    have hj' := lt_of_getElem? hj
    have := h2 j
    rw [List.getElem?_eq_getElem (by omega), hj] at this
    exact lt_of_getElem? this.symm
  -- where a handle of the caller's stands with the callee
  let inv : Nat → Option Nat := fun h => if h < st.length then idx ord h else some (ord.length + (h - st.length))
  let σm : Nat → Option (Nat × Nat) := fun h => match inv h with | some j => σc j | none => σ h
  have hback : ∀ j, j < st'.length → ∃ h, back ord st.length j = some h ∧ inv h = some j := by
    intro j hj
    unfold back
    cases hk : ord[j]? with
    | some k =>
      refine ⟨k, rfl, ?_⟩
      simp only [inv, if_pos (hbound j k hk)]
      exact idx_of_get hn hk
    | none =>
      have hj2 : ord.length ≤ j := by
        rcases Nat.lt_or_ge j ord.length with h | h
        · rw [List.getElem?_eq_getElem h] at hk; cases hk
        · exact h
      refine ⟨st.length + (j - ord.length), rfl, ?_⟩
      simp only [inv]
      rw [if_neg (by omega)]
      congr 1; omega
  have hinv : ∀ h j, inv h = some j → back ord st.length j = some h := by
    intro h j hh
    simp only [inv] at hh
    unfold back
    split at hh
    · have := idx_get hh
      simp [this]
    · cases hh
      rw [List.getElem?_eq_none (by omega)]
      simp; omega
  have hget : ∀ h, (setAll st ord (renS (back ord st.length) st') ++ renS (back ord st.length) (st'.drop ord.length))[h]? = match inv h with | some j => (st'[j]?).map (renO (back ord st.length)) | none => st[h]? := by
    intro h
    have hsl := setAll_length st ord (renS (back ord st.length) st')
    by_cases hlt : h < st.length
    · rw [List.getElem?_append_left (by omega)]
      simp only [inv, if_pos hlt]
      cases hi : idx ord h with
      | some j =>
        have hj := idx_get hi
        simp only
        rw [setAll_get st ord _ j h hn hj hlt (by rw [renS_length]; exact hl), renS_get]
      | none =>
        simp only
        refine setAll_other st ord _ h (fun hm => ?_)
        obtain ⟨j, hj⟩ := List.getElem?_of_mem hm
        rw [idx_of_get hn hj] at hi; cases hi
    · rw [List.getElem?_append_right (by omega), renS_get, List.getElem?_drop]
      simp only [inv, if_neg hlt]
      rw [hsl]
  have mpb : Mp (back ord st.length) w' Z' σc st' w' Z' σm (setAll st ord (renS (back ord st.length) st') ++ renS (back ord st.length) (st'.drop ord.length)) := by
    refine ⟨fun _ => Nat.le_refl _, fun _ _ _ => rfl, fun _ c _ _ h => ⟨c, h, rfl⟩, fun j h hj o ho => ?_⟩
    obtain ⟨h', h1, h2⟩ := hback j (lt_of_getElem? ho)
    rw [hj] at h1; cases h1
    refine ⟨renO (back ord st.length) o, by rw [hget, h2]; simp [ho], renO_le _ _, fun _ => ?_⟩
    simp only [σm, h2]
  have sig : ∀ h, h < st.length → ∀ o, st[h]? = some o → ∃ o', (setAll st ord (renS (back ord st.length) st') ++ renS (back ord st.length) (st'.drop ord.length))[h]? = some o' ∧ OLe o o' ∧ (o' ≠ .dead → σm h = σ h) := by
    intro h hh o ho
    rw [hget]
    cases hi : inv h with
    | none => exact ⟨o, ho, OLe.refl o, fun _ => by simp only [σm, hi]⟩
    | some j =>
      have hi' := hi
      simp only [inv, if_pos hh] at hi'
      have hj := idx_get hi'
      have hj2 := lt_of_getElem? hj
      have hcst : (renS (idx ord) os)[j]? = some (renO (idx ord) o) := by
        rw [renS_get, (pickO_get hp).2 j, hj]; simp [ho]
      obtain ⟨o', h1, h2, h3⟩ := Ec.sig j hj2 _ hcst
      refine ⟨renO (back ord st.length) o', by simp [h1], (renO_le (idx ord) o).trans (h2.trans (renO_le _ _)), fun hd => ?_⟩
      have : o' ≠ .dead := fun q => hd (by subst q; rfl)
      simp only [σm, hi]
      rw [h3 this]
      simp [σo, hj]
  have mon : Mon st.length w Z σ st w' Z' σm (setAll st ord (renS (back ord st.length) st') ++ renS (back ord st.length) (st'.drop ord.length)) := ⟨Ec.zle, Ec.cel, Ec.shp, sig⟩
  have livm : ∀ h, liv (setAll st ord (renS (back ord st.length) st') ++ renS (back ord st.length) (st'.drop ord.length)) h → (∃ j, inv h = some j ∧ liv st' j) ∨ (inv h = none ∧ h < st.length ∧ liv st h) := by
    intro h hlv
    cases hi : inv h with
    | some j =>
      left
      refine ⟨j, rfl, ?_⟩
      have e := hget h
      rw [hi] at e
      simp only at e
      cases hx : st'[j]? with
      | none => rw [hx] at e; simp only [Option.map_none] at e; rcases hlv with ⟨cs, q⟩ | ⟨sz, es, q⟩ <;> (rw [e] at q; cases q)
      | some x =>
        rw [hx] at e
        simp only [Option.map_some] at e
        have : (∃ cs, renO (back ord st.length) x = .box cs) ∨ ∃ sz es, renO (back ord st.length) x = .arr sz es true := by
          rcases hlv with ⟨cs, q⟩ | ⟨sz, es, q⟩ <;> rw [e] at q
          · exact .inl ⟨cs, by simpa using q⟩
          · exact .inr ⟨sz, es, by simpa using q⟩
        rcases renO_liv.1 this with ⟨cs, rfl⟩ | ⟨sz, es, rfl⟩
        · exact .inl ⟨cs, hx⟩
        · exact .inr ⟨sz, es, hx⟩
    | none =>
      right
      have e := hget h
      rw [hi] at e
      simp only at e
      refine ⟨rfl, ?_, ?_⟩
      · have := hlv.lt
        simp only [inv] at hi
        split at hi
        · assumption
        · cases hi
      · rcases hlv with ⟨cs, q⟩ | ⟨sz, es, q⟩ <;> rw [e] at q
        · exact .inl ⟨cs, q⟩
        · exact .inr ⟨sz, es, q⟩
  -- who is not handed over is not touched
  have apart : ∀ h b o, inv h = none → liv st h → σ h = some (b, o) → ¬ own (σo σ ord) (renS (idx ord) os) b := by
    intro h b o hi l s ho
    obtain ⟨k, o', hk, l', s'⟩ := sub_own hp ho
    have := S1.dis h k b o o' l l' s s'
    subst this
    obtain ⟨j, hj⟩ := List.getElem?_of_mem hk
    simp only [inv, if_pos l.lt] at hi
    rw [idx_of_get hn hj] at hi; cases hi
  have Sm : Sim Φ w' Z' σm (setAll st ord (renS (back ord st.length) st') ++ renS (back ord st.length) (st'.drop ord.length)) := by
    refine ⟨fun h o ho => ?_, fun h h' b o o' l l' s s' => ?_, Sc.z⟩
    · rw [hget] at ho
      cases hi : inv h with
      | some j =>
        rw [hi] at ho
        simp only at ho
        cases hx : st'[j]? with
        | none => rw [hx] at ho; simp at ho
        | some x =>
          rw [hx] at ho
          simp only [Option.map_some, Option.some.injEq] at ho
          subst ho
          have hσ : σm h = σc j := by simp only [σm, hi]
          cases x with
          | box cs =>
            rcases Sc.obj j _ hx with ⟨g1, g2⟩ | ⟨b, c, el, g1, g2, g3, g4⟩
            · subst g1
              exact .inl ⟨rfl, hσ.trans g2⟩
            · exact .inr ⟨b, c, el, hσ.trans g1, g2, g3, by rw [renL_length]; exact g4.ren mpb⟩
          | dead => trivial
          | arr sz es wr =>
            rcases Sc.obj j _ hx with ⟨g1, g2⟩ | ⟨b, o', c, el, g1, g2⟩
            · exact .inl ⟨g1, hσ.trans g2⟩
            · exact .inr ⟨b, o', c, el, hσ.trans g1, g2⟩
      | none =>
        rw [hi] at ho
        simp only at ho
        have hσ : σm h = σ h := by simp only [σm, hi]
        by_cases lv : liv st h
        · refine (S1.obj h o ho).keepM mon hσ (fun hd b o' s => ?_) (fun b o' s l => ?_) ho
          · exact Ec.blk b (S1.blt ho hd s) (apart h b o' hi lv s)
          · exact Ec.zold b (S1.lt l s) (apart h b o' hi lv s)
        · cases o with
          | box cs => exact absurd (.inl ⟨cs, ho⟩) lv
          | dead => trivial
          | arr sz es wr =>
            cases wr with
            | true => exact absurd (.inr ⟨sz, es, ho⟩) lv
            | false =>
              rcases S1.obj h _ ho with ⟨g1, g2⟩ | ⟨b, o', c, el, g1, g2, g3, g4, g5, g6⟩
              · exact .inl ⟨g1, hσ.trans g2⟩
              · obtain ⟨c', k1, k2⟩ := Ec.shp b c el (0, 0) g2
                exact .inr ⟨b, o', c', el, hσ.trans g1, k1, by omega, g4.frozen mon.stays (g6 rfl), (fun q => by cases q), fun _ => Nat.le_trans (g6 rfl) (Ec.zle b)⟩
    · rcases livm h l with ⟨j, i1, l1⟩ | ⟨i1, q1, l1⟩
      · have s1 : σc j = some (b, o) := by simpa only [σm, i1] using s
        rcases livm h' l' with ⟨j', i2, l2⟩ | ⟨i2, q2, l2⟩
        · have s2 : σc j' = some (b, o') := by simpa only [σm, i2] using s'
          have := Sc.dis j j' b o o' l1 l2 s1 s2
          subst this
          have e1 := hinv h j i1
          have e2 := hinv h' j i2
          rw [e1] at e2; cases e2; rfl
        · have s2 : σ h' = some (b, o') := by simpa only [σm, i2] using s'
          exact absurd (Ec.ow b (S1.lt l2 s2) ⟨j, o, l1, s1⟩) (apart h' b o' i2 l2 s2)
      · have s1 : σ h = some (b, o) := by simpa only [σm, i1] using s
        rcases livm h' l' with ⟨j', i2, l2⟩ | ⟨i2, q2, l2⟩
        · have s2 : σc j' = some (b, o') := by simpa only [σm, i2] using s'
          exact absurd (Ec.ow b (S1.lt l1 s1) ⟨j', o', l2, s2⟩) (apart h b o i1 l1 s1)
        · have s2 : σ h' = some (b, o') := by simpa only [σm, i2] using s'
          exact S1.dis h h' b o o' l1 l2 s1 s2
  have noown : ∀ b, ¬ own σ st b → ¬ own (σo σ ord) (renS (idx ord) os) b := fun b hb ho => by
    obtain ⟨k, o, _, l, s⟩ := sub_own hp ho
    exact hb ⟨k, o, l, s⟩
  refine ⟨σm, Sm, ⟨Ec.size, Ec.zle, fun b hb ho => Ec.zold b hb (noown b ho), Ec.cel, fun b hb ho => Ec.blk b hb (noown b ho), Ec.shp, fun b hb ho => ?_, sig, Ec.os, Ec.out⟩, fun v x hv => hv.ren mpb⟩
  obtain ⟨h, o, l, s⟩ := ho
  rcases livm h l with ⟨j, i1, l1⟩ | ⟨i1, q1, l1⟩
  · have s1 : σc j = some (b, o) := by simpa only [σm, i1] using s
    obtain ⟨k, o', _, l', s'⟩ := sub_own hp (Ec.ow b hb ⟨j, o, l1, s1⟩)
    exact ⟨k, o', l', s'⟩
  · have s1 : σ h = some (b, o) := by simpa only [σm, i1] using s
    exact ⟨h, o, l1, s1⟩

/-- What is asked of a call: it goes in and comes back, or is carried out at once. -/
def CallP (P : Program) (g : FuncId) (args : Array Value) (w : World) (R : Value → World → Prop) : Prop :=
  ((callFunc g args).run P w = .ok (.enter g args) w ∧ Calls P g args w (fun e w' => ∃ x, e = .returned x ∧ R x w')) ∨ ∃ x w', (callFunc g args).run P w = .ok (.value x) w' ∧ R x w'

theorem CallP.mono {g : FuncId} {args : Array Value} {R R' : Value → World → Prop} (h : CallP P g args w R) (hr : ∀ x w', R x w' → R' x w') : CallP P g args w R' := by
  rcases h with ⟨h1, h2⟩ | ⟨x, w', h1, h2⟩
  · exact .inl ⟨h1, h2.mono fun e w' ⟨x, he, hx⟩ => ⟨x, he, hr _ _ hx⟩⟩
  · exact .inr ⟨x, w', h1, hr _ _ h2⟩

/-- What a machine's call is good for. -/
def COk (P : Program) (Φ : Nat → FuncId) (C : Orc) : Prop :=
  ∀ f vs st v st', C f vs st = some (v, st') → ∀ w Z σ xs, Sim Φ w Z σ st → VRels Φ w Z σ st vs xs →
    CallP P (Φ f) xs.toArray w (fun x w' => ∃ Z' σ', Sim Φ w' Z' σ' st' ∧ VRel Φ w' Z' σ' st' v x ∧ Ext st.length w Z σ st w' Z' σ' st')

theorem pickO_nil : pickO st [] = some [] := rfl

theorem mcall_sound {C : Orc} (hC : COk P Φ C) (S : Sim Φ w Z σ st) {q : Bool} {ms : List Bool} {f : Nat} {vs : List AV} {xs : List Value} {v : AV} (h : mcall C q ms f vs st = some (v, st1)) (hv : VRels Φ w Z σ st vs xs) :
    CallP P (Φ f) xs.toArray w (fun x w' => ∃ Z' σ', Sim Φ w' Z' σ' st1 ∧ VRel Φ w' Z' σ' st1 v x ∧ Ext st.length w Z σ st w' Z' σ' st1) := by
  unfold mcall at h
  cases hb : brwA st ms vs with
  | none => simp only [hb] at h; cases h
  | some r =>
    obtain ⟨as, bl⟩ := r
    simp only [hb] at h
    obtain ⟨Z1, S1, E1, l1, F1⟩ := frzAll_sound (bl := bl) S
    have F : ∀ h sz es wr, st[h]? = some (.arr sz es wr) → h ∈ bl → (frzAll st bl)[h]? = some (.arr sz es false) := by
      intro h sz es wr hx hm
      obtain ⟨wr', g1, g2, g3⟩ := F1 h sz es wr hx
      rw [g3 hm] at g1; exact g1
    have hargs := brwA_sound S1 E1 F (fun h hh => hh) hb hv
    -- the call, whatever is handed over
    have call : ∀ {ord : List Nat} {os : List AO} {v0 : AV} {st' : St}, ord.Nodup → pickO (frzAll st bl) ord = some os → C f (renL (idx ord) as) (renS (idx ord) os) = some (v0, st') → ord.length ≤ st'.length →
        CallP P (Φ f) xs.toArray w (fun x w' => ∃ Z' σc σm, Sim Φ w' Z' σc st' ∧ VRel Φ w' Z' σc st' v0 x ∧ Ext ord.length w Z1 (σo σ ord) (renS (idx ord) os) w' Z' σc st' ∧
          Sim Φ w' Z' σm (setAll (frzAll st bl) ord (renS (back ord st.length) st') ++ renS (back ord st.length) (st'.drop ord.length)) ∧
          VRel Φ w' Z' σm (setAll (frzAll st bl) ord (renS (back ord st.length) st') ++ renS (back ord st.length) (st'.drop ord.length)) (ren (back ord st.length) v0) x ∧
          Ext st.length w Z σ st w' Z' σm (setAll (frzAll st bl) ord (renS (back ord st.length) st') ++ renS (back ord st.length) (st'.drop ord.length))) := by
      intro ord os v0 st' hn hp hcall hle
      refine (hC f _ _ _ _ hcall w Z1 (σo σ ord) xs (S1.sub hn hp) (hargs.ren (sub_mp hp))).mono ?_
      rintro x w' ⟨Z', σc, Sc, hx, Ec⟩
      have hlen : (renS (idx ord) os).length = ord.length := by rw [renS_length]; exact (pickO_get hp).1
      rw [hlen] at Ec
      obtain ⟨σm, g1, g2, g3⟩ := merge_sound S1 hn hp Sc Ec hle
      rw [l1] at g1 g2 g3
      exact ⟨Z', σc, σm, Sc, hx, Ec, g1, g3 _ _ hx, E1.trans g2⟩
    cases ho : reach (frzAll st bl) (hOfL as) with
    | nil =>
      simp only [ho] at h
      cases hc : C f (renL (idx []) as) [] with
      | none => simp only [hc] at h; cases h
      | some r2 =>
        obtain ⟨v0, st'⟩ := r2
        simp only [hc] at h
        cases st' with
        | nil =>
          simp only at h
          split at h
          · rename_i hns
            cases h
            refine (call (ord := []) List.nodup_nil pickO_nil hc (Nat.le_refl _)).mono ?_
            rintro x w' ⟨Z', σc, σm, Sc, hx, Ec, _, _, _⟩
            have hno : ∀ b, ¬ own (σo σ []) (renS (idx []) []) b := by
              rintro b ⟨j, o, l, s⟩
              simp [σo] at s
            have hblk : ∀ b, b < w.heap.size → w'.heap[b]? = w.heap[b]? := fun b hb => Ec.blk b hb (hno b)
            have E : Ext st.length w Z σ st w' Z σ st := by
              refine ⟨Ec.size, fun _ => Nat.le_refl _, fun _ _ _ => rfl, fun b off hz => ?_, fun b hb _ => hblk b hb, Ec.shp, fun _ _ h => h, fun h _ o ho => ⟨o, ho, OLe.refl o, fun _ => rfl⟩, Ec.os, Ec.out⟩
              exact block_cell (hblk b (S.z b (by omega))) off
            refine ⟨Z, σ, ⟨fun h o ho => (S.obj h o ho).keep E rfl (fun hd b o' s => hblk b (S.blt ho hd s)) (fun _ _ _ _ => rfl) ho, S.dis, fun b hb => Nat.lt_of_lt_of_le (S.z b hb) Ec.size⟩, noSl_rel _ _ hns hx, E⟩
          · split at h
            · cases h
            · cases h
              refine (call (ord := []) List.nodup_nil pickO_nil hc (Nat.le_refl _)).mono ?_
              rintro x w' ⟨Z', σc, σm, Sc, hx, Ec, g1, g2, g3⟩
              simp only [setAll, renS, List.drop_nil, List.append_nil] at g1 g2 g3
              exact ⟨Z', σm, g1, g2, g3⟩
        | cons o os =>
          simp only at h
          split at h
          · cases h
          · cases h
            refine (call (ord := []) List.nodup_nil pickO_nil hc (Nat.zero_le _)).mono ?_
            rintro x w' ⟨Z', σc, σm, Sc, hx, Ec, g1, g2, g3⟩
            simp only [setAll, List.length_nil, List.drop_zero] at g1 g2 g3
            exact ⟨Z', σm, g1, g2, g3⟩
    | cons h0 t =>
      simp only [ho] at h
      split at h
      · cases h
      · cases hp : pickO (frzAll st bl) (h0 :: t) with
        | none => simp only [hp] at h; cases h
        | some os =>
          simp only [hp] at h
          cases hc : C f (renL (idx (h0 :: t)) as) (renS (idx (h0 :: t)) os) with
          | none => simp only [hc] at h; cases h
          | some r2 =>
            obtain ⟨v0, st'⟩ := r2
            simp only [hc] at h
            split at h
            · rename_i hle
              cases h
              have hn : (h0 :: t).Nodup := by rw [← ho]; exact reach_nodup _ _
              refine (call hn hp hc hle).mono ?_
              rintro x w' ⟨Z', σc, σm, Sc, hx, Ec, g1, g2, g3⟩
              exact ⟨Z', σm, g1, g2, g3⟩
            · cases h


/-! ### Lending all -/
def zAll (w : World) (Z : Nat → Nat) (b : Nat) : Nat := max (Z b) (match w.heap[b]? with | some (.cells c _ _) => c.size | _ => 0)

theorem zAll_size {b : Nat} {c : Array Value} {el : TypeId} {fz : Nat × Nat} (h : w.heap[b]? = some (.cells c el fz)) : c.size ≤ zAll w Z b := by
  simp only [zAll, h]; omega

theorem stays_all : Stays w w Z (zAll w Z) := ⟨fun _ _ _ => rfl, fun b => by simp only [zAll]; omega⟩

theorem sim_all (S : Sim Φ w Z σ st) (σ2 : Nat → Option (Nat × Nat)) : Sim Φ w (zAll w Z) σ2 [] where
  obj h o ho := by simp at ho
  dis h h' b o o' l _ _ _ := by have := l.lt; simp at this
  z b hb := by
    simp only [zAll] at hb
    cases hh : w.heap[b]? with
    | none => rw [hh] at hb; exact S.z b (by simpa using hb)
    | some x => exact (Array.getElem?_eq_some_iff.1 hh).1

theorem lendA_sound (S : Sim Φ w Z σ st) {lim : Nat} {v : AV} {x : Value} {d : D} (h : lendA lim st v = some d) (hv : VRel Φ w Z σ st v x) : DRel w (zAll w Z) d x := by
  cases v with
  | d y => simp [lendA] at h; subst h; cases hv with | d hd => exact hd.mono stays_all
  | hs h' sz i n =>
    simp only [lendA] at h
    split at h
    · cases ho : st[h']? with
      | none => simp [ho] at h
      | some ob =>
        cases ob with
        | arr sz' es wr =>
          simp only [ho] at h
          split at h
          · rename_i hq
            obtain ⟨rfl, hin⟩ := hq
            cases h
            cases hv with
            | dhs hd => rw [ho] at hd; cases hd
            | rhs _ hd => rw [ho] at hd; cases hd
            | rhs0 hd => rw [ho] at hd; cases hd
            | rhse hd => rw [ho] at hd; cases hd
            | hs0 => simpa using DRel.sl0
            | hse => simpa using DRel.mk_sl (xs := []) (cap := 0) (sz := 0) (by simp) (fun i e h => by simp at h) (fun i h => by simp at h)
            | hs hs ho' hn hc hb =>
              rename_i b o cap es' wr'
              rw [ho] at ho'; cases ho'
              rcases S.obj h' _ ho with ⟨h1, h2⟩ | ⟨b', o', c, el, h1, h2, h3, h4, h5, h6⟩
              · rw [hs] at h2; cases h2
              · rw [hs] at h1; cases h1
                have hl : ((es.drop i).take n).length = n := by simp; omega
                have hr : Rws w (zAll w Z) b (o + i * sz') sz' ((es.drop i).take n) := by
                  intro j e he
                  have hj : j < n := by have := lt_of_getElem? he; rwa [hl] at this
                  rw [List.getElem?_take_of_lt hj, List.getElem?_drop] at he
                  obtain ⟨h7, h8⟩ := h4 _ e he
                  exact ⟨h7, by rw [Nat.add_assoc, ← Nat.add_mul]; exact h8.keep stays_all (fun _ _ => rfl)⟩
                have hz := zAll_size (Z := Z) h2
                have := DRel.mk_sl (cap := cap) (by rw [hl]; exact hc) hr (fun j hj => by
                  rw [hl] at hj
                  have : (i + j + 1) * sz' ≤ es.length * sz' := Nat.mul_le_mul_right _ (by omega)
                  rw [Nat.add_mul, Nat.add_mul] at this
                  rw [Nat.add_mul]
                  omega)
                rw [hl] at this
                exact this
          · cases h
        | _ => simp [ho] at h
    · cases h
  | _ => simp [lendA] at h

theorem lendAC_sound (S : Sim Φ w Z σ st) {lim : Nat} : ∀ {vs : List AV} {xs : List Value} {ds : List D}, lendAC lim st vs = some ds → VRels Φ w Z σ st vs xs → ds.length = xs.length ∧ ∀ (j : Nat) d x, ds[j]? = some d → xs[j]? = some x → DRel w (zAll w Z) d x
  | [], xs, ds, h, hv => by
    simp [lendAC] at h; subst h
    rw [VRels.nil_inv hv]; exact ⟨rfl, fun j d x h => by simp at h⟩
  | v :: vs, xs, ds, h, hv => by
    obtain ⟨x, xs', rfl, hx, hxs⟩ := VRels.cons_inv hv
    simp only [lendAC] at h
    cases h1 : lendA lim st v with
    | none => simp [h1] at h
    | some d =>
      cases h2 : lendAC lim st vs with
      | none => simp [h1, h2] at h
      | some ds' =>
        simp [h1, h2] at h
        subst h
        obtain ⟨g1, g2⟩ := lendAC_sound S h2 hxs
        refine ⟨by simp [g1], fun j d' x' hd hx' => ?_⟩
        cases j with
        | zero => simp at hd hx'; subst hd hx'; exact lendA_sound S h1 hx
        | succ j => simp at hd hx'; exact g2 j d' x' hd hx'

theorem lendD_sound (S : Sim Φ w Z σ st) {lim : Nat} {v : AV} {x : Value} {d : D} (h : lendD lim st v = some d) (hv : VRel Φ w Z σ st v x) : DRel w (zAll w Z) d x := by
  by_cases hb : ∃ h' sz i n cs, v = .hs h' sz i n ∧ st[h']? = some (.box cs)
  · obtain ⟨h', sz, i, n, cs, rfl, ho⟩ := hb
    simp only [lendD, ho] at h
    split at h
    · unfold lendB at h
      split at h
      · rename_i hn
        cases hc : lendAC lim st cs with
        | none => simp [hc] at h
        | some ds =>
          simp [hc] at h
          subst h
          cases hv with
          | dhs hd => rw [ho] at hd; cases hd
          | hs _ hd => rw [ho] at hd; cases hd
          | hs0 hd => rw [ho] at hd; cases hd
          | hse hd => rw [ho] at hd; cases hd
          | rhs0 => exact .sl0
          | rhse => exact DRel.mk_sl (xs := []) (cap := 0) (sz := 0) (by simp) (fun i e h => by simp at h) (fun i h => by simp at h)
          | rhs hs ho' hn' hcap hb =>
            rename_i b cap cs'
            rw [ho] at ho'; cases ho'
            rcases S.obj h' _ ho with ⟨_, g1⟩ | ⟨b', c, el, g1, g2, g3, g4⟩
            · rw [hs] at g1; cases g1
            · rw [hs] at g1; cases g1
              obtain ⟨k1, k2⟩ := lendAC_sound S hc g4
              have hcl : cs.length ≤ c.size := by have := g4.1; simp at this; omega
              have hd : ds.length = cs.length := by rw [k1]; simp; omega
              have hz := zAll_size (Z := Z) g2
              have hlen := chunk_len sz n (ds.drop (i * sz))
              have hle : n * sz ≤ (ds.drop (i * sz)).length := by simp [hd]; rw [Nat.add_mul] at hn; omega
              rw [Nat.add_mul] at hn
              have key := DRel.mk_sl (w := w) (Z := zAll w Z) (xs := chunk sz n (ds.drop (i * sz))) (b := b) (off := i * sz) (cap := cap) (sz := sz) (by rw [hlen]; exact hcap) ?_ ?_
              · rw [hlen] at key; exact key
              · intro k e he
                obtain ⟨q1, q2, q3⟩ := chunk_get sz n _ k e hle he
                refine ⟨q2, fun j d hj => ?_⟩
                have hjs : j < sz := by have := lt_of_getElem? hj; omega
                rw [q3 j hjs, List.getElem?_drop] at hj
                have hm : (k + 1) * sz ≤ n * sz := Nat.mul_le_mul_right _ q1
                rw [Nat.add_mul, Nat.one_mul] at hm
                have hlt : i * sz + (k * sz + j) < c.size := by omega
                have hcx : c[i * sz + (k * sz + j)]? = some c[i * sz + (k * sz + j)] := Array.getElem?_eq_getElem hlt
                refine ⟨c[i * sz + (k * sz + j)], ?_, k2 _ d _ hj (by rw [List.getElem?_take_of_lt (by omega), Array.getElem?_toList]; exact hcx)⟩
                rw [cell_iff]
                exact ⟨c, el, _, g2, by rw [Nat.add_assoc]; exact hcx⟩
              · intro k hk
                rw [hlen] at hk
                have hm : (k + 1) * sz ≤ n * sz := Nat.mul_le_mul_right _ hk
                omega
      · cases h
    · cases h
  · have he : lendD lim st v = lendA lim st v := by
      cases v with
      | d y => rfl
      | hs h' sz i n =>
        simp only [lendD, lendA]
        cases ho : st[h']? with
        | none => rfl
        | some o =>
          cases o with
          | box cs => exact absurd ⟨h', sz, i, n, cs, rfl, ho⟩ hb
          | _ => rfl
      | _ => rfl
    rw [he] at h
    exact lendA_sound S h hv

theorem lendC_sound (S : Sim Φ w Z σ st) {lim : Nat} : ∀ {vs : List AV} {xs : List Value} {ds : List D}, lendC lim st vs = some ds → VRels Φ w Z σ st vs xs → ds.length = xs.length ∧ ∀ (j : Nat) d x, ds[j]? = some d → xs[j]? = some x → DRel w (zAll w Z) d x
  | [], xs, ds, h, hv => by
    simp [lendC] at h; subst h
    rw [VRels.nil_inv hv]; exact ⟨rfl, fun j d x h => by simp at h⟩
  | v :: vs, xs, ds, h, hv => by
    obtain ⟨x, xs', rfl, hx, hxs⟩ := VRels.cons_inv hv
    simp only [lendC] at h
    cases h1 : lendD lim st v with
    | none => simp [h1] at h
    | some d =>
      cases h2 : lendC lim st vs with
      | none => simp [h1, h2] at h
      | some ds' =>
        simp [h1, h2] at h
        subst h
        obtain ⟨g1, g2⟩ := lendC_sound S h2 hxs
        refine ⟨by simp [g1], fun j d' x' hd hx' => ?_⟩
        cases j with
        | zero => simp at hd hx'; subst hd hx'; exact lendD_sound S h1 hx
        | succ j => simp at hd hx'; exact g2 j d' x' hd hx'

theorem lendP_sound (S : Sim Φ w Z σ st) {lim h sz i f : Nat} {x : Value} {v' : AV} (hl : lendP lim st h sz i f = some v') (hv : VRel Φ w Z σ st (.ptr h sz i f) x) (σ2 : Nat → Option (Nat × Nat)) : VRel Φ w (zAll w Z) σ2 [] v' x := by
  unfold lendP at hl
  split at hl
  · cases ho : st[h]? with
    | none => simp [ho] at hl
    | some ob =>
      cases ob with
      | box cs =>
        simp only [ho] at hl
        cases hc : lendC lim st cs with
        | none => simp [hc] at hl
        | some ds =>
          simp [hc] at hl
          subst hl
          cases hv with
          | aptr _ ho' => rw [ho] at ho'; cases ho'
          | dptr ho' => rw [ho] at ho'; cases ho'
          | bptr hs _ =>
            rename_i b' cs' hq
            rcases S.obj h _ ho with ⟨_, g1⟩ | ⟨b, c, el, g1, g2, g3, g4⟩
            · rw [hs] at g1; cases g1
            · rw [hs] at g1; cases g1
              obtain ⟨k1, k2⟩ := lendC_sound S hc g4
              have hcel : Cells w (zAll w Z) b' 0 ds := by
                intro j d hj
                have hlt := lt_of_getElem? hj
                have hlt' : j < cs.length ∧ j < c.size := by rw [k1] at hlt; simp at hlt; omega
                have hcj : c[j]? = some (c[j]'hlt'.2) := Array.getElem?_eq_getElem hlt'.2
                exact ⟨c[j]'hlt'.2, by rw [cell_iff]; exact ⟨c, el, _, g2, by simpa using hcj⟩, k2 j d _ hj (by rw [List.getElem?_take_of_lt hlt'.1]; simpa using hcj)⟩
              have hz := zAll_size (Z := Z) g2
              have hsz : ds.length ≤ c.size := by rw [k1]; simp; omega
              have := VRel.eptr (Φ := Φ) (σ := σ2) (st := []) (f := i * sz + f) (by omega : 0 + ds.length ≤ zAll w Z b') hcel
              simpa using this
      | arr sz' es wr =>
        simp only [ho] at hl
        split at hl
        · rename_i hsz
          subst hsz
          cases he : es[i]? with
          | none => simp [he] at hl
          | some e =>
            simp [he] at hl
            subst hl
            cases hv with
            | bptr _ ho' => rw [ho] at ho'; cases ho'
            | dptr ho' => rw [ho] at ho'; cases ho'
            | aptr hs ho' =>
              rename_i b o es' wr'
              rw [ho] at ho'; cases ho'
              rcases S.obj h _ ho with ⟨h1, h2⟩ | ⟨b', o', c, el, h1, h2, h3, h4, h5, h6⟩
              · rw [hs] at h2; cases h2
              · rw [hs] at h1; cases h1
                obtain ⟨h7, h8⟩ := h4 i e he
                have hz := zAll_size (Z := Z) h2
                have hi := lt_of_getElem? he
                have : (i + 1) * sz' ≤ es.length * sz' := Nat.mul_le_mul_right _ hi
                rw [Nat.add_mul, Nat.one_mul] at this
                exact .eptr (by omega) (h8.keep stays_all (fun _ _ => rfl))
        · cases hl
      | dead => simp [ho] at hl
  · cases hl

mutual
theorem lend_sound (S : Sim Φ w Z σ st) {lim : Nat} (σ2 : Nat → Option (Nat × Nat)) : ∀ (v : AV) (x : Value) (v' : AV), lend lim st v = some v' → VRel Φ w Z σ st v x → VRel Φ w (zAll w Z) σ2 [] v' x
  | .d y, x, v', h, hv => by
    cases hv with
    | d hd =>
      cases y <;> simp [lend] at h <;> subst h
      case nil => cases hd; exact .d .sl0
      all_goals exact .d (hd.mono stays_all)
  | .hs h' sz i n, x, v', h, hv => by
    simp only [lend, lendH] at h
    cases hd : lendD lim st (.hs h' sz i n) with
    | none => simp [hd] at h
    | some d => simp [hd] at h; subst h; exact .d (lendD_sound S hd hv)
  | .ptr h' sz i f, x, v', h, hv => by
    simp only [lend] at h
    exact lendP_sound S h hv σ2
  | .eptr c f, x, v', h, hv => by
    simp [lend] at h; subst h
    cases hv with
    | eptr hz hc => exact .eptr (Nat.le_trans hz (stays_all.2 _)) (hc.keep stays_all (fun _ _ => rfl))
  | .fn f cs, x, v', h, hv => by
    simp only [lend] at h
    cases hl : lendL lim st cs with
    | none => simp [hl] at h
    | some cs' =>
      simp [hl] at h; subst h
      cases hv with
      | fn hlen hh =>
        rename_i vs
        have := lendL_sound S σ2 cs vs.toList cs' hl ⟨by simpa using hlen, fun i c y h2 h3 => hh i c y h2 (by simpa using h3)⟩
        exact .fn (by have := this.1; simpa using this) (fun i c y h2 h3 => this.2 i c y h2 (by simpa using h3))
  | .agg cs, x, v', h, hv => by
    simp only [lend] at h
    cases hl : lendL lim st cs with
    | none => simp [hl] at h
    | some cs' =>
      simp [hl] at h; subst h
      cases hv with
      | agg hlen hh =>
        rename_i vs
        have := lendL_sound S σ2 cs vs.toList cs' hl ⟨by simpa using hlen, fun i c y h2 h3 => hh i c y h2 (by simpa using h3)⟩
        exact .agg (by have := this.1; simpa using this) (fun i c y h2 h3 => this.2 i c y h2 (by simpa using h3))
  | .tup _, x, v', h, hv => by simp [lend] at h
  | .undef, x, v', h, hv => by simp [lend] at h
theorem lendL_sound (S : Sim Φ w Z σ st) {lim : Nat} (σ2 : Nat → Option (Nat × Nat)) : ∀ (vs : List AV) (xs : List Value) (vs' : List AV), lendL lim st vs = some vs' → VRels Φ w Z σ st vs xs → VRels Φ w (zAll w Z) σ2 [] vs' xs
  | [], xs, vs', h, hv => by
    simp [lendL] at h; subst h
    rw [VRels.nil_inv hv]; exact .nil
  | v :: vs, xs, vs', h, hv => by
    obtain ⟨x, xs', rfl, hx, hxs⟩ := VRels.cons_inv hv
    simp only [lendL] at h
    cases h1 : lend lim st v with
    | none => simp [h1] at h
    | some v1 =>
      cases h2 : lendL lim st vs with
      | none => simp [h1, h2] at h
      | some vs2 =>
        simp [h1, h2] at h
        subst h
        exact .cons (lend_sound S σ2 v x v1 h1 hx) (lendL_sound S σ2 vs xs' vs2 h2 hxs)
end

theorem lcal_sound {C : Orc} (hC : COk P Φ C) (S : Sim Φ w Z σ st) {lim f : Nat} {vs : List AV} {xs : List Value} {v : AV} (h : lcal C lim f vs st = some v) (hv : VRels Φ w Z σ st vs xs) :
    CallP P (Φ f) xs.toArray w (fun x w' => ∃ Z' σ', Sim Φ w' Z' σ' st ∧ VRel Φ w' Z' σ' st v x ∧ Ext st.length w Z σ st w' Z' σ' st) := by
  unfold lcal at h
  cases hl : lendL lim st vs with
  | none => simp [hl] at h
  | some as =>
    simp only [hl] at h
    split at h
    · rename_i u hc
      split at h
      · rename_i hns
        cases h
        refine (hC f _ _ _ _ hc w (zAll w Z) (fun _ => none) xs (sim_all S _) (lendL_sound S _ vs xs as hl hv)).mono ?_
        rintro x w' ⟨Z', σc, Sc, hx, Ec⟩
        have hno : ∀ b, ¬ own (fun _ => none) ([] : St) b := by
          rintro b ⟨j, o, l, s⟩
          cases s
        have hblk : ∀ b, b < w.heap.size → w'.heap[b]? = w.heap[b]? := fun b hb => Ec.blk b hb (hno b)
        have E : Ext st.length w Z σ st w' Z σ st := by
          refine ⟨Ec.size, fun _ => Nat.le_refl _, fun _ _ _ => rfl, fun b off hz => ?_, fun b hb _ => hblk b hb, Ec.shp, fun _ _ h => h, fun h _ o ho => ⟨o, ho, OLe.refl o, fun _ => rfl⟩, Ec.os, Ec.out⟩
          exact block_cell (hblk b (S.z b (by omega))) off
        exact ⟨Z, σ, ⟨fun h o ho => (S.obj h o ho).keep E rfl (fun hd b o' s => hblk b (S.blt ho hd s)) (fun _ _ _ _ => rfl) ho, S.dis, fun b hb => Nat.lt_of_lt_of_le (S.z b hb) Ec.size⟩, noSl_rel _ _ hns hx, E⟩
      · cases h
    · cases h

end
end Go.Proofs.YtplgdddfhjpojaaGreat.AM

namespace Go.Proofs.YtplgdddfhjpojaaGreat.AM
open Go

/-! ### The machine's operations against a region's -/
def mGuard (ops : Array Oper) : Option (Nat × Bool) → Option (Nat × Bool) → Bool
  | none, none => true
  | some (g, b), some (j, b') => b == b' && (match ops[j]? with | some o => o.dst == some g | none => false)
  | _, _ => false

def dstOk (N : Nat) : Option Nat → Bool
  | none => true
  | some d => decide (d < N)

def mAI (P : Program) (Φ : Nat → FuncId) (N : Nat) (ops : Array Oper) (x : AI) (o : Oper) : Bool :=
  x.dst == o.dst && dstOk N o.dst && mGuard ops x.guard o.guard && mOp P Φ x.op o.op

def mAIs (P : Program) (Φ : Nat → FuncId) (N : Nat) (ops : Array Oper) : List AI → List Oper → Bool
  | [], [] => true
  | x :: xs, o :: os => mAI P Φ N ops x o && mAIs P Φ N ops xs os
  | _, _ => false

theorem mAIs_get {P : Program} {Φ : Nat → FuncId} {N : Nat} {ops : Array Oper} : ∀ {xs : List AI} {os : List Oper}, mAIs P Φ N ops xs os = true → xs.length = os.length ∧ ∀ (i : Nat) x o, xs[i]? = some x → os[i]? = some o → mAI P Φ N ops x o = true
  | [], [], _ => ⟨rfl, fun i x o h => by simp at h⟩
  | x :: xs, o :: os, h => by
    simp only [mAIs, Bool.and_eq_true] at h
    obtain ⟨h1, h2⟩ := mAIs_get h.2
    refine ⟨by simp [h1], fun i x' o' hx ho => ?_⟩
    cases i with
    | zero => simp at hx ho; subst hx ho; exact h.1
    | succ i => simp at hx ho; exact h2 i x' o' hx ho
  | [], _ :: _, h => by simp [mAIs] at h
  | _ :: _, [], h => by simp [mAIs] at h

section
variable {P : Program} {Φ : Nat → FuncId} {N : Nat} {w w' : World} {Z Z' : Nat → Nat} {σ σ' : Nat → Option (Nat × Nat)} {st st' st1 : St} {ρ ρ1 : Nat → AV} {a : Act} {C : Orc} {lim : Nat} {ops : Array Oper} {Q : Exit → Act → World → Prop}

/-- A frame that stands for the machine's. -/
structure FRel (Φ : Nat → FuncId) (N : Nat) (w : World) (Z : Nat → Nat) (σ : Nat → Option (Nat × Nat)) (st : St) (ρ : Nat → AV) (a : Act) : Prop where
  sim : Sim Φ w Z σ st
  env : ERel Φ w Z σ st ρ a
  size : a.tmps.size = N
  defers : a.defers = []

theorem ERel.put (hE : ERel Φ w Z σ st ρ a) (E : Ext st.length w Z σ st w' Z' σ' st1) {dst : Option Nat} (hd : dstOk N dst = true) (hN : a.tmps.size = N) {v : AV} {x : Value} (hv : VRel Φ w' Z' σ' st1 v x) :
    ERel Φ w' Z' σ' st1 (AM.put ρ dst v) (a.put dst x) := by
  intro t
  cases dst with
  | none => exact (hE t).mono E
  | some d =>
    simp [dstOk] at hd
    simp only [AM.put, Act.put]
    by_cases e : d = t
    · subst e
      simp only [if_true]
      rw [show (a.tmps.setIfInBounds d x).getD d undef = x by simp [hN, hd]]
      exact hv
    · simp only [e, if_false]
      have : (a.tmps.setIfInBounds d x).getD t undef = a.tmps.getD t undef := by simp [Array.getElem?_setIfInBounds_ne e]
      rw [this]
      exact (hE t).mono E

theorem put_size (a : Act) (dst : Option Nat) (x : Value) : (a.put dst x).tmps.size = a.tmps.size := by cases dst <;> simp [Act.put]
theorem put_defers (a : Act) (dst : Option Nat) (x : Value) : (a.put dst x).defers = a.defers := by cases dst <;> rfl

theorem FRel.put (h : FRel Φ N w Z σ st ρ a) (S : Sim Φ w' Z' σ' st1) (E : Ext st.length w Z σ st w' Z' σ' st1) {dst : Option Nat} (hd : dstOk N dst = true) {v : AV} {x : Value} (hv : VRel Φ w' Z' σ' st1 v x) :
    FRel Φ N w' Z' σ' st1 (AM.put ρ dst v) (a.put dst x) :=
  ⟨S, h.env.put E hd h.size hv, by rw [put_size]; exact h.size, by rw [put_defers]; exact h.defers⟩

theorem brw1_pure {st : St} {v v' : AV} {b : List Nat} (h : brw1 [] v = some (v', b)) : brw1 st v = some (v', b) ∧ b = [] := by
  unfold brw1 at h ⊢
  split at h
  · simp at h
  · simp at h; obtain ⟨rfl, rfl⟩ := h; exact ⟨rfl, rfl⟩
  · simp at h; obtain ⟨rfl, rfl⟩ := h; exact ⟨rfl, rfl⟩

theorem brwL_pure {st : St} : ∀ {vs vs' : List AV} {b : List Nat}, brwL [] vs = some (vs', b) → brwL st vs = some (vs', b) ∧ b = []
  | [], vs', b, h => by simp [brwL] at h; obtain ⟨rfl, rfl⟩ := h; exact ⟨rfl, rfl⟩
  | v :: vs, vs', b, h => by
    simp only [brwL] at h ⊢
    cases h1 : brw1 [] v with
    | none => simp [h1] at h
    | some r =>
      obtain ⟨v1, b1⟩ := r
      cases h2 : brwL [] vs with
      | none => simp [h1, h2] at h
      | some r2 =>
        obtain ⟨vs2, b2⟩ := r2
        simp [h1, h2] at h
        obtain ⟨rfl, rfl⟩ := h
        obtain ⟨g1, rfl⟩ := brw1_pure (st := st) h1
        obtain ⟨g2, rfl⟩ := brwL_pure (st := st) h2
        simp [g1, g2]

theorem brw_pure {st : St} {v v' : AV} {b : List Nat} (h : brw [] v = some (v', b)) : brw st v = some (v', b) ∧ b = [] := by
  unfold brw at h ⊢
  split at h
  · rename_i cs
    cases h1 : brwL [] cs with
    | none => simp [h1] at h
    | some r =>
      obtain ⟨cs1, b1⟩ := r
      simp [h1] at h
      obtain ⟨rfl, rfl⟩ := h
      obtain ⟨g1, rfl⟩ := brwL_pure (st := st) h1
      simp [g1]
  · exact brw1_pure h

theorem brwA_pure {st : St} : ∀ {vs vs' : List AV} {b : List Nat}, brwA [] [] vs = some (vs', b) → brwA st [] vs = some (vs', b) ∧ b = []
  | [], vs', b, h => by simp [brwA] at h; obtain ⟨rfl, rfl⟩ := h; exact ⟨rfl, rfl⟩
  | v :: vs, vs', b, h => by
    simp only [brwA, List.headD_nil, Bool.false_eq_true, if_false, List.tail_nil] at h ⊢
    cases h1 : brw [] v with
    | none => simp [h1] at h
    | some r =>
      obtain ⟨v1, b1⟩ := r
      cases h2 : brwA [] [] vs with
      | none => simp [h1, h2] at h
      | some r2 =>
        obtain ⟨vs2, b2⟩ := r2
        simp [h1, h2] at h
        obtain ⟨rfl, rfl⟩ := h
        obtain ⟨g1, rfl⟩ := brw_pure (st := st) h1
        obtain ⟨g2, rfl⟩ := brwA_pure (st := st) h2
        simp [g1, g2]

theorem pcal_mcall {f : Nat} {vs : List AV} {v : AV} {st : St} (h : pcal C f vs = some v) : mcall C false [] f vs st = some (v, st) := by
  unfold pcal at h
  split at h
  · rename_i as hb
    split at h
    · rename_i hh
      split at h
      · rename_i u hc
        split at h
        · rename_i hn
          cases h
          unfold mcall
          simp only [(brwA_pure (st := st) hb).1, frzAll, hh, reach, ddup, boxHs, hc, hn, if_true]
        · cases h
      · cases h
    · cases h
  · cases h

/-- An operation that is carried out. -/
theorem aop_wp0 (hC : COk P Φ C) (h : FRel Φ N w Z σ st ρ a) {o : Oper} {ao : AOp} {v : AV} (hd : dstOk N o.dst = true) (hm : mOp P Φ ao o.op = true) (hr : aop C lim ao ρ st = some (v, st1)) (hnp : ∀ f xs, ao ≠ .pcall f xs) (hnl : ∀ f xs, ao ≠ .lcall f xs) (hng : ∀ ms f xs g, ao ≠ .callg ms f xs g) {K : Act → World → Prop}
    (hK : ∀ x w' Z' σ', FRel Φ N w' Z' σ' st1 (AM.put ρ o.dst v) (a.put o.dst x) → Ext st.length w Z σ st w' Z' σ' st1 → K (a.put o.dst x) w') : o.wp P a w K Q := by
  by_cases hc : ∃ q ms f xs, ao = .call q ms f xs
  · obtain ⟨q, ms, f, xs, rfl⟩ := hc
    obtain ⟨dst, op, ty, pos, aft, g⟩ := o
    cases op <;> try (simp [mOp] at hm; done)
    rename_i c
    obtain ⟨callee, as, ts⟩ := c
    cases callee <;> try (simp [mOp] at hm; done)
    rename_i fo
    simp only [mOp, Bool.and_eq_true] at hm
    have vf := opd h.env hm.1
    have vs := opds h.env hm.2
    simp only [aop] at hr
    split at hr
    · rename_i g' caps hX
      rw [hX] at vf
      generalize hfo : a.eval fo = X at vf
      cases vf with
      | fn hl hh =>
        rename_i cvs
        have hcaps : VRels Φ w Z σ st caps cvs.toList := ⟨by simpa using hl, fun i c y h1 h2 => hh i c y h1 (by simpa using h2)⟩
        have hcall := mcall_sound hC h.sim hr (vs.append hcaps)
        have hargs : (as.toList.map a.eval ++ cvs.toList).toArray = as.map a.eval ++ cvs := by
          apply Array.ext'; simp
        rw [hargs] at hcall
        have hrun : (execOp a.eval { dst := dst, op := .call { callee := .value fo, args := as, argTypes := ts }, type := ty, pos := pos, after := aft, guard := g }).run P w = (callFunc (Φ g') (as.map a.eval ++ cvs)).run P w := by
          simp [execOp, resolve, hfo, Deferred.ofValue, invoke]
        unfold Oper.wp
        rw [hrun]
        rcases hcall with ⟨h1, h2⟩ | ⟨x, w', h1, Z', σ', S', hx, E'⟩
        · rw [h1, Oper.upon_enter]
          refine h2.mono ?_
          rintro e w' ⟨x, rfl, Z', σ', S', hx, E'⟩
          exact hK x w' Z' σ' (h.put S' E' hd hx) E'
        · rw [h1, Oper.upon_value]
          exact hK x w' Z' σ' (h.put S' E' hd hx) E'
    · cases hr
  · have hnc : ∀ q ms f xs, ao ≠ .call q ms f xs := fun q ms f xs e => hc ⟨q, ms, f, xs, e⟩
    obtain ⟨x, w', Z', σ', hrun, S', hx, E'⟩ := aop_ran (P := P) (a := a) h.sim h.env hm hnc hnp hnl hng hr
    unfold Oper.wp
    rcases hrun with hrun | ⟨hrun, rfl⟩
    · rw [hrun, Oper.upon_value]; exact hK x w' Z' σ' (h.put S' E' hd hx) E'
    · rw [hrun, Oper.upon_skip]; exact hK undef w' Z' σ' (h.put S' E' hd hx) E'

theorem aop_wp (hC : COk P Φ C) (h : FRel Φ N w Z σ st ρ a) {o : Oper} {ao : AOp} {v : AV} (hd : dstOk N o.dst = true) (hm : mOp P Φ ao o.op = true) (hr : aop C lim ao ρ st = some (v, st1)) {K : Act → World → Prop}
    (hK : ∀ x w' Z' σ', FRel Φ N w' Z' σ' st1 (AM.put ρ o.dst v) (a.put o.dst x) → Ext st.length w Z σ st w' Z' σ' st1 → K (a.put o.dst x) w') : o.wp P a w K Q := by
  by_cases hp : ∃ f xs, ao = .pcall f xs
  · obtain ⟨f, xs, rfl⟩ := hp
    refine aop_wp0 (lim := lim) (ao := .call false [] f xs) hC h hd ?_ ?_ (fun _ _ => by simp) (fun _ _ => by simp) (fun _ _ _ _ => by simp) hK
    · obtain ⟨dst, op, ty, pos, aft, g⟩ := o
      cases op <;> try (simp [mOp] at hm; done)
      rename_i c
      obtain ⟨callee, as, ts⟩ := c
      cases callee <;> try (simp [mOp] at hm; done)
      exact hm
    · simp only [aop] at hr ⊢
      split at hr
      · rename_i g' caps hX
        cases hq : pcal C g' (evL ρ xs ++ caps) with
        | none => simp [hq, pair2] at hr
        | some u =>
          simp [hq, pair2] at hr
          obtain ⟨rfl, rfl⟩ := hr
          exact pcal_mcall hq
      · cases hr
  · by_cases hlc : ∃ f xs, ao = .lcall f xs
    · obtain ⟨f, xs, rfl⟩ := hlc
      obtain ⟨dst, op, ty, pos, aft, g⟩ := o
      cases op <;> try (simp [mOp] at hm; done)
      rename_i c
      obtain ⟨callee, as, ts⟩ := c
      cases callee <;> try (simp [mOp] at hm; done)
      rename_i fo
      simp only [mOp, Bool.and_eq_true] at hm
      have vf := opd h.env hm.1
      have vs := opds h.env hm.2
      simp only [aop] at hr
      split at hr
      · rename_i g' caps hX
        cases hq : lcal C lim g' (evL ρ xs ++ caps) st with
        | none => simp [hq, pair2] at hr
        | some u =>
          simp [hq, pair2] at hr
          obtain ⟨rfl, rfl⟩ := hr
          rw [hX] at vf
          generalize hfo : a.eval fo = X at vf
          cases vf with
          | fn hl hh =>
            rename_i cvs
            have hcaps : VRels Φ w Z σ st caps cvs.toList := ⟨by simpa using hl, fun i c y h1 h2 => hh i c y h1 (by simpa using h2)⟩
            have hcall := lcal_sound hC h.sim hq (vs.append hcaps)
            have hargs : (as.toList.map a.eval ++ cvs.toList).toArray = as.map a.eval ++ cvs := by
              apply Array.ext'; simp
            rw [hargs] at hcall
            have hrun : (execOp a.eval { dst := dst, op := .call { callee := .value fo, args := as, argTypes := ts }, type := ty, pos := pos, after := aft, guard := g }).run P w = (callFunc (Φ g') (as.map a.eval ++ cvs)).run P w := by
              simp [execOp, resolve, hfo, Deferred.ofValue, invoke]
            unfold Oper.wp
            rw [hrun]
            rcases hcall with ⟨h1, h2⟩ | ⟨x, w', h1, Z', σ', S', hx, E'⟩
            · rw [h1, Oper.upon_enter]
              refine h2.mono ?_
              rintro e w' ⟨x, rfl, Z', σ', S', hx, E'⟩
              exact hK x w' Z' σ' (h.put S' E' hd hx) E'
            · rw [h1, Oper.upon_value]
              exact hK x w' Z' σ' (h.put S' E' hd hx) E'
      · cases hr
    · by_cases hg : ∃ ms f xs g, ao = .callg ms f xs g
      · obtain ⟨ms, f, xs, g, rfl⟩ := hg
        refine aop_wp0 (lim := lim) (ao := .call false ms f xs) hC h hd ?_ ?_ (fun _ _ => by simp) (fun _ _ => by simp) (fun _ _ _ _ => by simp) hK
        · obtain ⟨dst, op, ty, pos, aft, g⟩ := o
          cases op <;> try (simp [mOp] at hm; done)
          rename_i c
          obtain ⟨callee, as, ts⟩ := c
          cases callee <;> try (simp [mOp] at hm; done)
          exact hm
        · simp only [aop] at hr ⊢
          split at hr
          · rename_i g' caps hX
            split at hr
            · exact hr
            · cases hr
          · cases hr
      · exact aop_wp0 hC h hd hm hr (fun f xs e => hp ⟨f, xs, e⟩) (fun f xs e => hlc ⟨f, xs, e⟩) (fun ms f xs g e => hg ⟨ms, f, xs, g, e⟩) hK

theorem undef_rel : VRel Φ w Z σ st (.tup []) undef := .tup rfl (fun i c v h => by simp at h)

theorem yielded_of {g j : Nat} {o : Oper} (ho : ops[j]? = some o) (hg : o.dst = some g) : yielded ops a.tmps j = match a.tmps[g]? with | some (.bool b) => some b | _ => none := by
  simp only [yielded, ho, hg, Option.bind_some]; rfl

theorem astep_wp (hC : COk P Φ C) (h : FRel Φ N w Z σ st ρ a) {i : Nat} {o : Oper} {x : AI} (hi : ops[i]? = some o) (hm : mAI P Φ N ops x o = true) (hr : astep C lim x ρ st = some (ρ1, st1)) {K : Act → World → Prop}
    (hK : ∀ a' w' Z' σ', FRel Φ N w' Z' σ' st1 ρ1 a' → Ext st.length w Z σ st w' Z' σ' st1 → K a' w') : wpOp P ops Q i K a w := by
  simp only [mAI, Bool.and_eq_true, beq_iff_eq] at hm
  obtain ⟨⟨⟨hdst, hd⟩, hg⟩, hop⟩ := hm
  unfold wpOp
  simp only [hi]
  have run : ∀ {v st1}, aop C lim x.op ρ st = some (v, st1) → (∀ a' w' Z' σ', FRel Φ N w' Z' σ' st1 (AM.put ρ x.dst v) a' → Ext st.length w Z σ st w' Z' σ' st1 → K a' w') → o.wp P a w K Q := by
    intro v st1 hv hK'
    rw [hdst] at hK'
    exact aop_wp hC h hd hop hv (fun y w' Z' σ' hF hE => hK' _ _ _ _ hF hE)
  have skip : (∀ a' w' Z' σ', FRel Φ N w' Z' σ' st (AM.put ρ x.dst (.tup [])) a' → Ext st.length w Z σ st w' Z' σ' st → K a' w') → K (a.put o.dst undef) w := by
    intro hK'
    rw [hdst] at hK'
    exact hK' _ _ _ _ (h.put h.sim (Ext.refl _ _ _ _ _) hd undef_rel) (Ext.refl _ _ _ _ _)
  unfold astep at hr
  cases hxg : x.guard with
  | none =>
    cases hog : o.guard with
    | some _ => simp [hxg, hog, mGuard] at hg
    | none =>
      simp only [hxg] at hr
      have hw : Region.wanted o (yielded ops a.tmps) = true := by simp [Region.wanted, hog]
      rw [if_pos hw]
      cases hv : aop C lim x.op ρ st with
      | none => simp [hv] at hr
      | some r =>
        obtain ⟨v, st2⟩ := r
        simp [hv] at hr
        obtain ⟨rfl, rfl⟩ := hr
        exact .inl (run hv hK)
  | some gb =>
    obtain ⟨g, want⟩ := gb
    cases hog : o.guard with
    | none => simp [hxg, hog, mGuard] at hg
    | some jb =>
      obtain ⟨j, want'⟩ := jb
      simp only [hxg, hog, mGuard, Bool.and_eq_true, beq_iff_eq] at hg
      obtain ⟨rfl, hgj⟩ := hg
      cases hoj : ops[j]? with
      | none => simp [hoj] at hgj
      | some oj =>
        simp [hoj] at hgj
        have hy := yielded_of (a := a) hoj hgj
        have hve := h.env g
        simp only [hxg] at hr
        split at hr
        · rename_i b hb
          rw [hb] at hve
          have hbv := hve.bool_inv
          have htg : a.tmps[g]? = some (.bool b) := by
            rw [Array.getD_eq_getD_getElem?] at hbv
            cases ht : a.tmps[g]? with
            | none => rw [ht] at hbv; simp [undef] at hbv
            | some y => rw [ht] at hbv; simp at hbv; rw [hbv]
          have hw : Region.wanted o (yielded ops a.tmps) = (b == want) := by
            simp [Region.wanted, hog, hy, htg]
          by_cases hbw : b = want
          · rw [if_pos (by rw [hw]; simp [hbw])]
            rw [if_pos hbw] at hr
            cases hv : aop C lim x.op ρ st with
            | none => simp [hv] at hr
            | some r =>
              obtain ⟨v, st2⟩ := r
              simp [hv] at hr
              obtain ⟨rfl, rfl⟩ := hr
              exact .inl (run hv hK)
          · rw [if_neg (by rw [hw]; simp [hbw])]
            rw [if_neg hbw] at hr
            cases hr
            exact skip hK
        · rename_i hb
          rw [hb] at hve
          have hnb : ∀ b, a.tmps[g]? ≠ some (.bool b) := by
            intro b ht
            rw [Array.getD_eq_getD_getElem?, ht] at hve
            simp at hve
            cases hve
          have hw : Region.wanted o (yielded ops a.tmps) = false := by
            simp only [Region.wanted, hog, hy]
            cases ht : a.tmps[g]? with
            | none => simp
            | some y => cases y <;> simp_all
          rw [if_neg (by simp [hw])]
          cases hr
          exact skip hK
        · cases hr

/-- The operations in the order of the text. -/
theorem aops_wp (hC : COk P Φ C) {fin : (Nat → AV) → St → Act → World → Prop} : ∀ {xs : List AI} {k : Nat} {ρ : Nat → AV} {st : St} {a : Act} {w : World} {Z : Nat → Nat} {σ : Nat → Option (Nat × Nat)} {ρ' : Nat → AV} {st' : St},
    (∀ (i : Nat) x, xs[i]? = some x → ∃ o, ops[k + i]? = some o ∧ mAI P Φ N ops x o = true) → FRel Φ N w Z σ st ρ a → aops C none xs ρ st = some (ρ', st') →
    (∀ a' w' Z' σ', FRel Φ N w' Z' σ' st' ρ' a' → Ext st.length w Z σ st w' Z' σ' st' → st.length ≤ st'.length → Q .normal a' w') → wpOps P ops Q (List.range' k xs.length) a w
  | [], k, ρ, st, a, w, Z, σ, ρ', st', _, h, hr, hQ => by
    simp [aops] at hr; obtain ⟨rfl, rfl⟩ := hr
    simp only [List.length_nil, List.range'_zero, wpOps]
    exact hQ a w Z σ h (Ext.refl _ _ _ _ _) (Nat.le_refl _)
  | x :: xs, k, ρ, st, a, w, Z, σ, ρ', st', hm, h, hr, hQ => by
    simp only [aops, Option.getD_none] at hr
    cases hs : astep C st.length x ρ st with
    | none => simp [hs] at hr
    | some r =>
      obtain ⟨ρ1, st1⟩ := r
      simp only [hs] at hr
      obtain ⟨o, ho, hmo⟩ := hm 0 x rfl
      simp only [List.length_cons, List.range'_succ]
      rw [wpOps_cons]
      refine astep_wp hC h ho hmo hs (fun a' w' Z' σ' hF hE => ?_)
      have hle : st.length ≤ st1.length := by
        rcases Nat.lt_or_ge st1.length st.length with hlt | hge
        · have h1 : st[st1.length]? = some (st[st1.length]'hlt) := List.getElem?_eq_getElem hlt
          obtain ⟨o', h2, _⟩ := hE.sig st1.length hlt _ h1
          have := lt_of_getElem? h2
          omega
        · exact hge
      refine aops_wp hC (fin := fin) (fun i y hy => ?_) hF hr (fun a2 w2 Z2 σ2 hF2 hE2 hl2 => hQ a2 w2 Z2 σ2 hF2 (hE.trans (hE2.le hle)) (Nat.le_trans hle hl2))
      obtain ⟨o', h1, h2⟩ := hm (i + 1) y (by simpa using hy)
      exact ⟨o', by rwa [show k + 1 + i = k + (i + 1) by omega], h2⟩

end
end Go.Proofs.YtplgdddfhjpojaaGreat.AM

namespace Go.Proofs.YtplgdddfhjpojaaGreat.AM
open Go

/-! ### What an operation reads, and what it moves -/
def tOf : AOpd → List Nat
  | .t n => [n]
  | _ => []

def tOfO : Option AOpd → List Nat
  | some x => tOf x
  | none => []

def tOfL : List AOpd → List Nat
  | [] => []
  | x :: xs => tOf x ++ tOfL xs

def tOfE : List (Nat × AOpd) → List Nat
  | [] => []
  | (_, x) :: xs => tOf x ++ tOfE xs

def tOfC : List (Nat × Nat × AOpd) → List Nat
  | [] => []
  | (_, _, x) :: xs => tOf x ++ tOfC xs

def reads : AOp → List Nat
  | .mv x => tOf x
  | .pick c a b => tOf c ++ (tOf a ++ tOf b)
  | .alloc _ => []
  | .box x => tOf x
  | .build _ ps => tOfC ps
  | .bslice _ _ _ ps => tOfE ps
  | .bslq _ _ _ ps => tOfE ps
  | .isnil x => tOf x
  | .dsl _ _ _ ps => tOfE ps
  | .ldb _ x => tOf x
  | .ldg _ x g => tOf x ++ tOf g
  | .callg _ f xs g => tOf f ++ (tOfL xs ++ tOf g)
  | .brow sz _ _ ps => tOfC (ps.map fun p => (p.1 * sz, sz, p.2))
  | .load _ x => tOf x
  | .store _ a v => tOf a ++ tOf v
  | .nilc x => tOf x
  | .bin _ x y => tOf x ++ tOf y
  | .eqb _ x y => tOf x ++ tOf y
  | .eqs _ _ x y => tOf x ++ tOf y
  | .un _ x => tOf x
  | .conv _ x => tOf x
  | .convs x => tOf x
  | .faddr _ x => tOf x
  | .fld _ _ x => tOf x
  | .iaddr _ x i => tOf x ++ tOf i
  | .stri x i => tOf x ++ tOf i
  | .len x => tOf x
  | .slen x => tOf x
  | .append _ x y => tOf x ++ tOf y
  | .appb _ x y => tOf x ++ tOf y
  | .slice0 _ x => tOf x
  | .slice _ x lo hi => tOf x ++ (tOfO lo ++ tOfO hi)
  | .strs x lo hi => tOf x ++ (tOfO lo ++ tOfO hi)
  | .ext x _ => tOf x
  | .mkfn _ cs => tOfL cs
  | .max x y => tOf x ++ tOf y
  | .min x y => tOf x ++ tOf y
  | .mksl _ _ n c => tOf n ++ tOf c
  | .mkrow _ _ n c => tOf n ++ tOf c
  | .b2s x => tOf x
  | .pcall f xs => tOf f ++ tOfL xs
  | .lcall f xs => tOf f ++ tOfL xs
  | .call _ _ f xs => tOf f ++ tOfL xs
  | .refuse => []

/-- 0: neither reads nor moves memory. 1: reads. 2: makes new objects. 3: anything. -/
def cls : AOp → Nat
  | .load .. => 1
  | .ldb .. => 1
  | .ldg .. => 1
  | .callg .. => 3
  | .alloc _ => 2
  | .box _ => 2
  | .call true .. => 2
  | .call false .. => 3
  | .store .. => 3
  | .append .. => 3
  | .appb .. => 3
  | .brow .. => 2
  | .bslq .. => 2
  | .slice0 .. => 2
  | .mkrow .. => 2
  | .bslice .. => 3
  | .mksl .. => 2
  | .lcall .. => 1
  | .b2s _ => 3
  | _ => 0

theorem ev_congr {ρ ρ' : Nat → AV} {x : AOpd} (h : ∀ t ∈ tOf x, ρ t = ρ' t) : x.ev ρ = x.ev ρ' := by
  cases x <;> simp [AOpd.ev]
  exact h _ (by simp [tOf])

theorem evL_congr {ρ ρ' : Nat → AV} : ∀ {xs : List AOpd}, (∀ t ∈ tOfL xs, ρ t = ρ' t) → evL ρ xs = evL ρ' xs
  | [], _ => rfl
  | x :: xs, h => by
    simp only [evL]
    rw [ev_congr (x := x) (fun t ht => h t (by simp [tOfL, ht])), evL_congr (fun t ht => h t (by simp [tOfL, ht]))]

theorem orV_congr {ρ ρ' : Nat → AV} {n : Int} {x : Option AOpd} (h : ∀ t ∈ tOfO x, ρ t = ρ' t) : orV ρ n x = orV ρ' n x := by
  cases x with
  | none => rfl
  | some x => simp only [orV]; rw [ev_congr h]

theorem fillE_congr {ρ ρ' : Nat → AV} {sz : Nat} : ∀ {ps : List (Nat × AOpd)} {es : List (List D)} {st : St}, (∀ t ∈ tOfE ps, ρ t = ρ' t) → fillE ρ sz ps es st = fillE ρ' sz ps es st
  | [], _, _, _ => rfl
  | (i, x) :: ps, es, st, h => by
    simp only [fillE]
    rw [ev_congr (x := x) (fun t ht => h t (by simp [tOfE, ht]))]
    have ih : ∀ {es : List (List D)} {st : St}, fillE ρ sz ps es st = fillE ρ' sz ps es st := fillE_congr (fun t ht => h t (by simp [tOfE, ht]))
    simp only [ih]

theorem fillQ_congr {ρ ρ' : Nat → AV} {sz : Nat} : ∀ {ps : List (Nat × AOpd)} {es : List (List D)} {st : St}, (∀ t ∈ tOfE ps, ρ t = ρ' t) → fillQ ρ sz ps es st = fillQ ρ' sz ps es st
  | [], _, _, _ => rfl
  | (i, x) :: ps, es, st, h => by
    simp only [fillQ]
    rw [ev_congr (x := x) (fun t ht => h t (by simp [tOfE, ht]))]
    have ih : ∀ {es : List (List D)} {st : St}, fillQ ρ sz ps es st = fillQ ρ' sz ps es st := fillQ_congr (fun t ht => h t (by simp [tOfE, ht]))
    simp only [ih]

theorem fillP_congr {ρ ρ' : Nat → AV} {sz : Nat} : ∀ {ps : List (Nat × AOpd)} {es : List (List D)}, (∀ t ∈ tOfE ps, ρ t = ρ' t) → fillP ρ sz ps es = fillP ρ' sz ps es
  | [], _, _ => rfl
  | (i, x) :: ps, es, h => by
    simp only [fillP]
    rw [ev_congr (x := x) (fun t ht => h t (by simp [tOfE, ht]))]
    have ih : ∀ {es : List (List D)}, fillP ρ sz ps es = fillP ρ' sz ps es := fillP_congr (fun t ht => h t (by simp [tOfE, ht]))
    simp only [ih]

theorem fillC_congr {ρ ρ' : Nat → AV} : ∀ {ps : List (Nat × Nat × AOpd)} {cs : List AV}, (∀ t ∈ tOfC ps, ρ t = ρ' t) → fillC ρ ps cs = fillC ρ' ps cs
  | [], _, _ => rfl
  | (i, n, x) :: ps, cs, h => by
    simp only [fillC]
    rw [ev_congr (x := x) (fun t ht => h t (by simp [tOfC, ht]))]
    have ih : ∀ {cs : List AV}, fillC ρ ps cs = fillC ρ' ps cs := fillC_congr (fun t ht => h t (by simp [tOfC, ht]))
    simp only [ih]

theorem aop_congr {C : Orc} {lim : Nat} {o : AOp} {ρ ρ' : Nat → AV} {st : St} (h : ∀ t ∈ reads o, ρ t = ρ' t) : aop C lim o ρ st = aop C lim o ρ' st := by
  have e1 : ∀ {x : AOpd}, (∀ t ∈ tOf x, t ∈ reads o) → x.ev ρ = x.ev ρ' := fun hx => ev_congr fun t ht => h t (hx t ht)
  cases o with
  | mv x => simp only [aop]; rw [e1 (x := x) (fun t ht => ht)]
  | pick c a b => simp only [aop]; rw [e1 (x := c) (fun t ht => by simp [reads, ht]), e1 (x := a) (fun t ht => by simp [reads, ht]), e1 (x := b) (fun t ht => by simp [reads, ht])]
  | alloc z => rfl
  | box x => simp only [aop]; rw [e1 (x := x) (fun t ht => ht)]
  | build z ps => simp only [aop]; rw [fillC_congr (ρ' := ρ') h]
  | bslice sz z n ps => simp only [aop]; rw [fillE_congr (ρ' := ρ') h]
  | brow sz z n ps => simp only [aop]; rw [fillC_congr (ρ' := ρ') h]
  | bslq sz z n ps => simp only [aop]; rw [fillQ_congr (ρ' := ρ') h]
  | isnil x => simp only [aop]; rw [e1 (x := x) (fun t ht => ht)]
  | dsl sz z n ps => simp only [aop]; rw [fillP_congr (ρ' := ρ') h]
  | ldb n x => simp only [aop]; rw [e1 (x := x) (fun t ht => ht)]
  | ldg n x g => simp only [aop]; rw [e1 (x := x) (fun t ht => by simp [reads, ht]), e1 (x := g) (fun t ht => by simp [reads, ht])]
  | callg ms f xs g =>
    simp only [aop]
    rw [e1 (x := f) (fun t ht => by simp [reads, ht]), e1 (x := g) (fun t ht => by simp [reads, ht]), evL_congr (xs := xs) (ρ' := ρ') (fun t ht => h t (by simp [reads, ht]))]
  | load n x => simp only [aop]; rw [e1 (x := x) (fun t ht => ht)]
  | store n p x => simp only [aop]; rw [e1 (x := p) (fun t ht => by simp [reads, ht]), e1 (x := x) (fun t ht => by simp [reads, ht])]
  | nilc x => simp only [aop]; rw [e1 (x := x) (fun t ht => ht)]
  | bin op x y => simp only [aop]; rw [e1 (x := x) (fun t ht => by simp [reads, ht]), e1 (x := y) (fun t ht => by simp [reads, ht])]
  | eqb n x y => simp only [aop]; rw [e1 (x := x) (fun t ht => by simp [reads, ht]), e1 (x := y) (fun t ht => by simp [reads, ht])]
  | eqs ks n x y => simp only [aop]; rw [e1 (x := x) (fun t ht => by simp [reads, ht]), e1 (x := y) (fun t ht => by simp [reads, ht])]
  | un op x => simp only [aop]; rw [e1 (x := x) (fun t ht => ht)]
  | conv k x => simp only [aop]; rw [e1 (x := x) (fun t ht => ht)]
  | convs x => simp only [aop]; rw [e1 (x := x) (fun t ht => ht)]
  | faddr k x => simp only [aop]; rw [e1 (x := x) (fun t ht => ht)]
  | fld k n x => simp only [aop]; rw [e1 (x := x) (fun t ht => ht)]
  | iaddr k x i => simp only [aop]; rw [e1 (x := x) (fun t ht => by simp [reads, ht]), e1 (x := i) (fun t ht => by simp [reads, ht])]
  | stri x i => simp only [aop]; rw [e1 (x := x) (fun t ht => by simp [reads, ht]), e1 (x := i) (fun t ht => by simp [reads, ht])]
  | len x => simp only [aop]; rw [e1 (x := x) (fun t ht => ht)]
  | slen x => simp only [aop]; rw [e1 (x := x) (fun t ht => ht)]
  | append sz x y => simp only [aop]; rw [e1 (x := x) (fun t ht => by simp [reads, ht]), e1 (x := y) (fun t ht => by simp [reads, ht])]
  | appb sz x y => simp only [aop]; rw [e1 (x := x) (fun t ht => by simp [reads, ht]), e1 (x := y) (fun t ht => by simp [reads, ht])]
  | slice0 sz x => simp only [aop]; rw [e1 (x := x) (fun t ht => ht)]
  | slice sz x lo hi =>
    have hb : ∀ n, bnds ρ n lo hi = bnds ρ' n lo hi := fun n => by
      simp only [bnds]
      rw [orV_congr (x := lo) (fun t ht => h t (by simp [reads, ht])), orV_congr (x := hi) (fun t ht => h t (by simp [reads, ht]))]
    simp only [aop, slc, hb]; rw [e1 (x := x) (fun t ht => by simp [reads, ht])]
  | strs x lo hi =>
    have hb : ∀ n, bnds ρ n lo hi = bnds ρ' n lo hi := fun n => by
      simp only [bnds]
      rw [orV_congr (x := lo) (fun t ht => h t (by simp [reads, ht])), orV_congr (x := hi) (fun t ht => h t (by simp [reads, ht]))]
    simp only [aop, AM.strs, hb]; rw [e1 (x := x) (fun t ht => by simp [reads, ht])]
  | ext x i => simp only [aop]; rw [e1 (x := x) (fun t ht => ht)]
  | mkfn f cs => simp only [aop]; rw [evL_congr (ρ' := ρ') h]
  | max x y => simp only [aop]; rw [e1 (x := x) (fun t ht => by simp [reads, ht]), e1 (x := y) (fun t ht => by simp [reads, ht])]
  | min x y => simp only [aop]; rw [e1 (x := x) (fun t ht => by simp [reads, ht]), e1 (x := y) (fun t ht => by simp [reads, ht])]
  | mksl sz z n c => simp only [aop]; rw [e1 (x := n) (fun t ht => by simp [reads, ht]), e1 (x := c) (fun t ht => by simp [reads, ht])]
  | mkrow sz z n c => simp only [aop]; rw [e1 (x := n) (fun t ht => by simp [reads, ht]), e1 (x := c) (fun t ht => by simp [reads, ht])]
  | b2s x => simp only [aop]; rw [e1 (x := x) (fun t ht => ht)]
  | lcall f xs =>
    simp only [aop]
    rw [e1 (x := f) (fun t ht => by simp [reads, ht]), evL_congr (xs := xs) (ρ' := ρ') (fun t ht => h t (by simp [reads, ht]))]
  | pcall f xs =>
    simp only [aop]
    rw [e1 (x := f) (fun t ht => by simp [reads, ht]), evL_congr (xs := xs) (ρ' := ρ') (fun t ht => h t (by simp [reads, ht]))]
  | call q ms f xs =>
    simp only [aop]
    rw [e1 (x := f) (fun t ht => by simp [reads, ht]), evL_congr (xs := xs) (ρ' := ρ') (fun t ht => h t (by simp [reads, ht]))]
  | refuse => rfl

/-- Memories that a reader can't tell apart below L. -/
def uw : AO → AO
  | .arr sz es _ => .arr sz es true
  | o => o
def Below' (L : Nat) (st st' : St) : Prop := ∀ h, h < L → (st'[h]?).map uw = (st[h]?).map uw
theorem uw_cases {x y : Option AO} (h : x.map uw = y.map uw) : x = y ∨ ∃ sz es a b, x = some (.arr sz es a) ∧ y = some (.arr sz es b) := by
  cases x with
  | none => cases y with
    | none => exact .inl rfl
    | some y => simp at h
  | some x =>
    cases y with
    | none => simp at h
    | some y =>
      simp at h
      cases x <;> cases y <;> simp [uw] at h
      · subst h; exact .inl rfl
      · obtain ⟨rfl, rfl⟩ := h; exact .inr ⟨_, _, _, _, rfl, rfl⟩
      · exact .inl rfl
theorem below_same {L : Nat} {st st' : St} (h : ∀ k, k < L → st'[k]? = st[k]?) : Below' L st st' := fun k hk => by rw [h k hk]

theorem rd_below {L : Nat} {st st' : St} {n : Option Nat} {p : AV} (h : Below' L st st') : rd L st' n p = rd L st n p := by
  cases p <;> simp only [rd]
  split
  · rename_i hl
    rcases uw_cases (h _ hl) with e | ⟨_, _, _, _, e1, e2⟩
    · rw [e]
    · rw [e1, e2]
  · rfl

theorem lendA_below {L : Nat} {st st' : St} {v : AV} (h : Below' L st st') : lendA L st' v = lendA L st v := by
  cases v <;> simp only [lendA]
  split
  · rename_i hl
    rcases uw_cases (h _ hl) with e | ⟨_, _, _, _, e1, e2⟩
    · rw [e]
    · rw [e1, e2]
  · rfl

theorem lendAC_below {L : Nat} {st st' : St} (h : Below' L st st') : ∀ {vs : List AV}, lendAC L st' vs = lendAC L st vs
  | [] => rfl
  | v :: vs => by simp only [lendAC, lendA_below h, lendAC_below h]

theorem lendD_below {L : Nat} {st st' : St} {v : AV} (h : Below' L st st') : lendD L st' v = lendD L st v := by
  cases v <;> simp only [lendD]
  split
  · rename_i hl
    rcases uw_cases (h _ hl) with e | ⟨_, _, _, _, e1, e2⟩
    · rw [e]; simp only [lendB, lendAC_below h]
    · rw [e1, e2]
  · rfl

theorem lendC_below {L : Nat} {st st' : St} (h : Below' L st st') : ∀ {vs : List AV}, lendC L st' vs = lendC L st vs
  | [] => rfl
  | v :: vs => by simp only [lendC, lendD_below h, lendC_below h]

theorem lendP_below {L : Nat} {st st' : St} {k sz i f : Nat} (h : Below' L st st') : lendP L st' k sz i f = lendP L st k sz i f := by
  simp only [lendP]
  split
  · rename_i hl
    rcases uw_cases (h _ hl) with e | ⟨_, _, _, _, e1, e2⟩
    · rw [e]; simp only [lendC_below h]
    · rw [e1, e2]
  · rfl

mutual
theorem lend_below {L : Nat} {st st' : St} (h : Below' L st st') : ∀ (v : AV), lend L st' v = lend L st v
  | .d y => by cases y <;> simp [lend]
  | .hs .. => by simp only [lend, lendH, lendD_below h]
  | .ptr .. => by simp only [lend, lendP_below h]
  | .eptr .. => by simp only [lend]
  | .fn f cs => by simp only [lend, lendL_below h cs]
  | .agg cs => by simp only [lend, lendL_below h cs]
  | .tup _ => by simp only [lend]
  | .nn _ => by simp only [lend]
  | .undef => by simp only [lend]
theorem lendL_below {L : Nat} {st st' : St} (h : Below' L st st') : ∀ (vs : List AV), lendL L st' vs = lendL L st vs
  | [] => by simp only [lendL]
  | v :: vs => by simp only [lendL, lend_below h v, lendL_below h vs]
end

theorem lcal_below {C : Orc} {L f : Nat} {vs : List AV} {st st' : St} (h : Below' L st st') : lcal C L f vs st' = lcal C L f vs st := by
  simp only [lcal, lendL_below h]

def isLdb : AOp → Bool
  | .ldb .. => true
  | _ => false
def isApp : AOp → Bool
  | .append .. => true
  | _ => false
/-- Memories that have the same boxes below L. -/
def Bx (L : Nat) (st st' : St) : Prop := ∀ h, h < L → ∀ cs, st[h]? = some (.box cs) ↔ st'[h]? = some (.box cs)
theorem Below'.bx {L : Nat} {st st' : St} (h : Below' L st st') : Bx L st st' := by
  intro k hk cs
  rcases uw_cases (h k hk) with e | ⟨_, _, _, _, e1, e2⟩
  · rw [e]
  · rw [e1, e2]; simp
def isLdg : AOp → Bool
  | .ldg .. => true
  | _ => false
def RB (L : Nat) (o : AOp) (ρ : Nat → AV) (st st' : St) : Prop := cls o = 0 ∨ Below' L st st' ∨ (isLdb o = true ∧ Bx L st st') ∨ ∃ n x g, o = .ldg n x g ∧ ∀ h, hd1 (g.ev ρ) = some h → h < L → (st'[h]?).map uw = (st[h]?).map uw
theorem rdb_bx {L : Nat} {st st' : St} {n : Option Nat} {p : AV} (h : Bx L st st') : rdb L st' n p = rdb L st n p := by
  cases p <;> simp only [rdb]
  split
  · rename_i k sz i f hl
    cases h1 : st[k]? with
    | none =>
      cases h2 : st'[k]? with
      | none => rfl
      | some o =>
        cases o with
        | box cs => rw [(h k hl cs).2 h2] at h1; cases h1
        | _ => rfl
    | some o =>
      cases o with
      | box cs => rw [(h k hl cs).1 h1]
      | _ =>
        cases h2 : st'[k]? with
        | none => rfl
        | some o' =>
          cases o' with
          | box cs => rw [(h k hl cs).2 h2] at h1; cases h1
          | _ => rfl
  · rfl

/-- A reader: its value hangs on the memory below L alone, and it leaves it. -/
theorem reader {C : Orc} {L : Nat} {o : AOp} (hc : cls o ≤ 1) (ρ : Nat → AV) : ∀ {st st' : St}, RB L o ρ st st' → (∀ v st1, aop C L o ρ st = some (v, st1) → st1 = st ∧ aop C L o ρ st' = some (v, st')) ∧ (aop C L o ρ st = none → aop C L o ρ st' = none) := by
  intro st st' hb
  have pr : ∀ (r : Option AV), (∀ v st1, pair2 r st = some (v, st1) → st1 = st ∧ pair2 r st' = some (v, st')) ∧ (pair2 r st = none → pair2 r st' = none) := by
    intro r
    cases r with
    | none => exact ⟨fun v st1 h => by simp [pair2] at h, fun _ => rfl⟩
    | some x => exact ⟨fun v st1 h => by simp [pair2] at h ⊢; exact ⟨h.2.symm, h.1⟩, fun h => by simp [pair2] at h⟩
  have hbx : isLdb o = true → cls o = 0 ∨ Bx L st st' := fun q => by
    rcases hb with h | h | ⟨_, h⟩ | ⟨n, x, g, h, _⟩
    · exact .inl h
    · exact .inr h.bx
    · exact .inr h
    · rw [h] at q; simp [isLdb] at q
  have hbg : ∀ n x g, o = .ldg n x g → ∀ h, hd1 (g.ev ρ) = some h → h < L → (st'[h]?).map uw = (st[h]?).map uw := fun n x g e => by
    rcases hb with h | h | ⟨h, _⟩ | ⟨n', x', g', h, h2⟩
    · rw [e] at h; simp [cls] at h
    · exact fun k _ hk => h k hk
    · rw [e] at h; simp [isLdb] at h
    · rw [e] at h; cases h; exact h2
  have hb : isLdb o = false → isLdg o = false → cls o = 0 ∨ Below' L st st' := fun q q2 => by
    rcases hb with hb | hb | ⟨hb, _⟩ | ⟨n, x, g, h, _⟩
    · exact .inl hb
    · exact .inr hb
    · rw [q] at hb; cases hb
    · rw [h] at q2; simp [isLdg] at q2
  cases o with
  | dsl sz z n ps =>
    simp only [aop]
    split
    · exact ⟨fun v st1 h => by simp at h ⊢; exact ⟨h.2.symm, h.1⟩, fun h => by simp at h⟩
    · exact ⟨fun v st1 h => by simp at h, fun _ => rfl⟩
  | ldb n x =>
    rcases hbx rfl with hb | hb
    · simp [cls] at hb
    · simp only [aop]; rw [rdb_bx hb]; exact pr _
  | ldg n x g =>
    simp only [aop]
    split
    · rename_i hhd
      split
      · rename_i h sz i f hx
        have hrd : rd L st' n (.ptr h sz i f) = rd L st n (.ptr h sz i f) := by
          simp only [rd]
          split
          · rename_i hl
            rcases uw_cases (hbg n x g rfl h (by rw [← hhd, hx]; rfl) hl) with e | ⟨_, _, _, _, e1, e2⟩
            · rw [e]
            · rw [e1, e2]
          · rfl
        rw [hrd]; exact pr _
      · exact ⟨fun v st1 h => by simp at h, fun _ => rfl⟩
    · exact ⟨fun v st1 h => by simp at h, fun _ => rfl⟩
  | callg => simp [cls] at hc
  | mv x => exact ⟨fun v st1 h => by simp [aop] at h ⊢; exact ⟨h.2.symm, h.1⟩, fun h => by simp [aop] at h⟩
  | pick c a b =>
    simp only [aop]
    split
    · exact ⟨fun v st1 h => by simp at h ⊢; exact ⟨h.2.symm, h.1⟩, fun h => by simp at h⟩
    · exact ⟨fun v st1 h => by simp at h, fun _ => rfl⟩
  | alloc z => simp [cls] at hc
  | box x => simp [cls] at hc
  | build z ps =>
    simp only [aop]
    split
    · exact ⟨fun v st1 h => by simp at h ⊢; exact ⟨h.2.symm, h.1⟩, fun h => by simp at h⟩
    · exact ⟨fun v st1 h => by simp at h, fun _ => rfl⟩
  | bslice => simp [cls] at hc
  | load n x =>
    rcases hb rfl rfl with hb | hb
    · simp [cls] at hb
    · simp only [aop]; rw [rd_below hb]; exact pr _
  | store => simp [cls] at hc
  | nilc x =>
    simp only [aop]
    split
    · exact ⟨fun v st1 h => by simp at h ⊢; exact ⟨h.2.symm, h.1⟩, fun h => by simp at h⟩
    · exact ⟨fun v st1 h => by simp at h ⊢; exact ⟨h.2.symm, h.1⟩, fun h => by simp at h⟩
    · exact ⟨fun v st1 h => by simp at h, fun _ => rfl⟩
  | bin op x y => simp only [aop]; exact pr _
  | eqb n x y =>
    simp only [aop]
    split
    · exact ⟨fun v st1 h => by simp at h ⊢; exact ⟨h.2.symm, h.1⟩, fun h => by simp at h⟩
    · exact ⟨fun v st1 h => by simp at h, fun _ => rfl⟩
  | eqs ks n x y =>
    simp only [aop]
    split
    · split
      · exact ⟨fun v st1 h => by simp at h ⊢; exact ⟨h.2.symm, h.1⟩, fun h => by simp at h⟩
      · exact ⟨fun v st1 h => by simp at h, fun _ => rfl⟩
    · exact ⟨fun v st1 h => by simp at h, fun _ => rfl⟩
  | un op x =>
    simp only [aop]
    split
    · split
      · exact ⟨fun v st1 h => by simp at h ⊢; exact ⟨h.2.symm, h.1⟩, fun h => by simp at h⟩
      · exact ⟨fun v st1 h => by simp at h, fun _ => rfl⟩
    · exact ⟨fun v st1 h => by simp at h, fun _ => rfl⟩
  | conv k x =>
    simp only [aop]
    split
    · exact ⟨fun v st1 h => by simp at h ⊢; exact ⟨h.2.symm, h.1⟩, fun h => by simp at h⟩
    · exact ⟨fun v st1 h => by simp at h, fun _ => rfl⟩
  | convs x =>
    simp only [aop]
    split
    · exact ⟨fun v st1 h => by simp at h ⊢; exact ⟨h.2.symm, h.1⟩, fun h => by simp at h⟩
    · exact ⟨fun v st1 h => by simp at h, fun _ => rfl⟩
  | faddr k x =>
    simp only [aop]
    split
    · exact ⟨fun v st1 h => by simp at h ⊢; exact ⟨h.2.symm, h.1⟩, fun h => by simp at h⟩
    · exact ⟨fun v st1 h => by simp at h ⊢; exact ⟨h.2.symm, h.1⟩, fun h => by simp at h⟩
    · exact ⟨fun v st1 h => by simp at h, fun _ => rfl⟩
  | fld k n x =>
    simp only [aop]
    split
    · exact pr _
    · exact ⟨fun v st1 h => by simp at h, fun _ => rfl⟩
  | iaddr k x i => simp only [aop]; exact pr _
  | stri x i =>
    simp only [aop]
    split
    · split
      · split
        · exact ⟨fun v st1 h => by simp at h ⊢; exact ⟨h.2.symm, h.1⟩, fun h => by simp at h⟩
        · exact ⟨fun v st1 h => by simp at h, fun _ => rfl⟩
      · exact ⟨fun v st1 h => by simp at h, fun _ => rfl⟩
    · exact ⟨fun v st1 h => by simp at h, fun _ => rfl⟩
  | len x => simp only [aop]; exact pr _
  | slen x =>
    simp only [aop]
    split
    · exact ⟨fun v st1 h => by simp at h ⊢; exact ⟨h.2.symm, h.1⟩, fun h => by simp at h⟩
    · exact ⟨fun v st1 h => by simp at h, fun _ => rfl⟩
  | append => simp [cls] at hc
  | appb => simp [cls] at hc
  | brow => simp [cls] at hc
  | bslq => simp [cls] at hc
  | slice0 => simp [cls] at hc
  | mkrow => simp [cls] at hc
  | isnil x =>
    simp only [aop]
    split
    · exact ⟨fun v st1 h => by simp at h ⊢; exact ⟨h.2.symm, h.1⟩, fun h => by simp at h⟩
    · exact ⟨fun v st1 h => by simp at h ⊢; exact ⟨h.2.symm, h.1⟩, fun h => by simp at h⟩
    · exact ⟨fun v st1 h => by simp at h ⊢; exact ⟨h.2.symm, h.1⟩, fun h => by simp at h⟩
    · exact ⟨fun v st1 h => by simp at h ⊢; exact ⟨h.2.symm, h.1⟩, fun h => by simp at h⟩
    · exact ⟨fun v st1 h => by simp at h, fun _ => rfl⟩
  | slice sz x lo hi => simp only [aop]; exact pr _
  | strs x lo hi => simp only [aop]; exact pr _
  | ext x i =>
    simp only [aop]
    split
    · split
      · exact ⟨fun v st1 h => by simp at h ⊢; exact ⟨h.2.symm, h.1⟩, fun h => by simp at h⟩
      · exact ⟨fun v st1 h => by simp at h, fun _ => rfl⟩
    · exact ⟨fun v st1 h => by simp at h, fun _ => rfl⟩
  | mkfn f cs => exact ⟨fun v st1 h => by simp [aop] at h ⊢; exact ⟨h.2.symm, h.1⟩, fun h => by simp [aop] at h⟩
  | max x y =>
    simp only [aop]
    split
    · exact ⟨fun v st1 h => by simp at h ⊢; exact ⟨h.2.symm, h.1⟩, fun h => by simp at h⟩
    · exact ⟨fun v st1 h => by simp at h, fun _ => rfl⟩
  | min x y =>
    simp only [aop]
    split
    · exact ⟨fun v st1 h => by simp at h ⊢; exact ⟨h.2.symm, h.1⟩, fun h => by simp at h⟩
    · exact ⟨fun v st1 h => by simp at h, fun _ => rfl⟩
  | mksl => simp [cls] at hc
  | b2s => simp [cls] at hc
  | lcall f xs =>
    rcases hb rfl rfl with hb | hb
    · simp [cls] at hb
    · simp only [aop]
      split
      · rw [lcal_below hb]; exact pr _
      · exact ⟨fun v st1 h => by simp at h, fun _ => rfl⟩
  | pcall f xs =>
    simp only [aop]
    split
    · exact pr _
    · exact ⟨fun v st1 h => by simp at h, fun _ => rfl⟩
  | call q ms f xs => cases q <;> simp [cls] at hc
  | refuse => exact ⟨fun v st1 h => by simp [aop] at h, fun _ => rfl⟩

theorem frza_len {st st1 : St} {v : AV} {d : D} (h : frza st v = some (d, st1)) : st1.length = st.length := by
  unfold frza at h
  split at h
  · cases h; rfl
  · cases h; rfl
  · split at h
    · split at h
      · cases h; simp
      · cases h
    · cases h
  · cases h

theorem frzaL_len : ∀ {vs : List AV} {st st1 : St} {ds : List D}, frzaL st vs = some (ds, st1) → st1.length = st.length
  | [], st, st1, ds, h => by simp [frzaL] at h; rw [h.2]
  | v :: vs, st, st1, ds, h => by
    simp only [frzaL] at h
    cases h1 : frza st v with
    | none => simp only [h1] at h; cases h
    | some r =>
      obtain ⟨d, st2⟩ := r
      simp only [h1] at h
      cases h2 : frzaL st2 vs with
      | none => simp only [h2] at h; cases h
      | some r2 =>
        obtain ⟨ds2, st3⟩ := r2
        simp only [h2] at h
        cases h
        rw [frzaL_len h2, frza_len h1]

theorem frza_uw {st st1 : St} {v : AV} {d : D} (h : frza st v = some (d, st1)) (k : Nat) : (st1[k]?).map uw = (st[k]?).map uw := by
  unfold frza at h
  split at h
  · cases h; rfl
  · cases h; rfl
  · split at h
    · rename_i ho
      split at h
      · cases h
        rw [List.getElem?_set]
        split
        · rename_i e; subst e
          split
          · rw [ho]; rfl
          · rename_i q; exact absurd (lt_of_getElem? ho) q
        · rfl
      · cases h
    · cases h
  · cases h

theorem frzaL_uw : ∀ {vs : List AV} {st st1 : St} {ds : List D}, frzaL st vs = some (ds, st1) → ∀ k : Nat, (st1[k]?).map uw = (st[k]?).map uw
  | [], st, st1, ds, h, k => by simp [frzaL] at h; rw [h.2]
  | v :: vs, st, st1, ds, h, k => by
    simp only [frzaL] at h
    cases h1 : frza st v with
    | none => simp only [h1] at h; cases h
    | some r =>
      obtain ⟨d, st2⟩ := r
      simp only [h1] at h
      cases h2 : frzaL st2 vs with
      | none => simp only [h2] at h; cases h
      | some r2 =>
        obtain ⟨ds2, st3⟩ := r2
        simp only [h2] at h
        cases h
        rw [frzaL_uw h2 k, frza_uw h1 k]

theorem fillQ_len {ρ : Nat → AV} {sz : Nat} : ∀ {ps : List (Nat × AOpd)} {es es1 : List (List D)} {st st1 : St}, fillQ ρ sz ps es st = some (es1, st1) → st1.length = st.length
  | [], es, es1, st, st1, h => by simp [fillQ] at h; rw [h.2]
  | (i, x) :: ps, es, es1, st, st1, h => by
    simp only [fillQ] at h
    cases h1 : frzaL st (x.ev ρ).cells with
    | none => simp only [h1] at h; cases h
    | some r =>
      obtain ⟨ds, st2⟩ := r
      simp only [h1] at h
      split at h
      · rw [fillQ_len h, frzaL_len h1]
      · cases h

theorem fillQ_uw {ρ : Nat → AV} {sz : Nat} : ∀ {ps : List (Nat × AOpd)} {es es1 : List (List D)} {st st1 : St}, fillQ ρ sz ps es st = some (es1, st1) → ∀ k : Nat, (st1[k]?).map uw = (st[k]?).map uw
  | [], es, es1, st, st1, h, k => by simp [fillQ] at h; rw [h.2]
  | (i, x) :: ps, es, es1, st, st1, h, k => by
    simp only [fillQ] at h
    cases h1 : frzaL st (x.ev ρ).cells with
    | none => simp only [h1] at h; cases h
    | some r =>
      obtain ⟨ds, st2⟩ := r
      simp only [h1] at h
      split at h
      · rw [fillQ_uw h k, frzaL_uw h1 k]
      · cases h

theorem mcall_quiet {C : Orc} {ms : List Bool} {f : Nat} {vs : List AV} {st st1 : St} {v : AV} (h : mcall C true ms f vs st = some (v, st1)) : Below' st.length st st1 := by
  unfold mcall at h
  cases hb : brwA st ms vs with
  | none => simp only [hb] at h; cases h
  | some r =>
    obtain ⟨as, bl⟩ := r
    simp only [hb] at h
    have hfz : bl = [] → frzAll st bl = st := fun e => by subst e; rfl
    split at h
    · split at h
      · cases h
      · split at h
        · cases h; exact fun _ _ => rfl
        · split at h
          · cases h
          · rename_i hq
            cases h
            have : bl = [] := by simpa using hq
            rw [hfz this]; exact fun _ _ => rfl
      · split at h
        · cases h
        · rename_i hq
          cases h
          have : bl = [] := by simpa using hq
          rw [hfz this]
          exact below_same fun k hk => by rw [List.getElem?_append_left hk]
    · simp at h

theorem quiet {C : Orc} {L : Nat} {o : AOp} (hc : cls o ≤ 2) {ρ : Nat → AV} {st st1 : St} {v : AV} (h : aop C L o ρ st = some (v, st1)) : Below' st.length st st1 := by
  by_cases h1 : cls o ≤ 1
  · have := (reader (C := C) (L := L) h1 ρ (st := st) (st' := st) (.inr (.inl fun _ _ => rfl))).1 v st1 h
    rw [this.1]; exact fun _ _ => rfl
  · cases o with
    | alloc z => simp [aop] at h; obtain ⟨_, rfl⟩ := h; exact below_same fun k hk => by rw [List.getElem?_append_left hk]
    | box x =>
      simp only [aop] at h
      split at h
      · simp at h; obtain ⟨_, rfl⟩ := h; exact below_same fun k hk => by rw [List.getElem?_append_left hk]
      · cases h
    | call q ms f xs =>
      cases q with
      | false => simp [cls] at hc
      | true =>
        simp only [aop] at h
        split at h
        · exact mcall_quiet h
        · cases h
    | bslice => simp [cls] at hc
    | callg => simp [cls] at hc
    | store => simp [cls] at hc
    | append => simp [cls] at hc
    | appb => simp [cls] at hc
    | brow sz z n ps =>
      simp only [aop] at h
      split at h
      · simp at h; obtain ⟨_, rfl⟩ := h; exact below_same fun k hk => by rw [List.getElem?_append_left hk]
      · cases h
    | bslq sz z n ps =>
      simp only [aop] at h
      split at h
      · rename_i es st2 hf
        simp at h; obtain ⟨_, rfl⟩ := h
        intro k hk
        rw [List.getElem?_append_left (by rw [fillQ_len hf]; exact hk)]
        exact fillQ_uw hf k
      · cases h
    | slice0 sz x =>
      simp only [aop] at h
      split at h
      · simp at h; obtain ⟨_, rfl⟩ := h; exact below_same fun k hk => by rw [List.getElem?_append_left hk]
      · simp at h; obtain ⟨_, rfl⟩ := h; exact below_same fun k hk => by rw [List.getElem?_append_left hk]
      · simp at h; obtain ⟨_, rfl⟩ := h; exact below_same fun k hk => by rw [List.getElem?_append_left hk]
      · cases h
    | mkrow sz z n c =>
      simp only [aop] at h
      split at h
      · split at h
        · simp at h; obtain ⟨_, rfl⟩ := h; exact below_same fun k hk => by rw [List.getElem?_append_left hk]
        · cases h
      · cases h
    | mksl sz z n c =>
      simp only [aop] at h
      split at h
      · split at h
        · simp at h; obtain ⟨_, rfl⟩ := h; exact below_same fun k hk => by rw [List.getElem?_append_left hk]
        · cases h
      · cases h
    | b2s => simp [cls] at hc
    | _ => simp [cls] at h1

/-! ### Two operations apart -/
def rdsI (x : AI) : List Nat := (match x.guard with | some (g, _) => [g] | none => []) ++ reads x.op

def dstIn (d : Option Nat) (l : List Nat) : Bool := match d with | some t => l.contains t | none => false

def gPair : AOp → AOp → Bool
  | .ldg _ _ (.t a), .callg _ _ _ (.t b) => a == b
  | _, _ => false
theorem gPair_inv {x y : AOp} (h : gPair x y = true) : ∃ n z t ms f xs, x = .ldg n z (.t t) ∧ y = .callg ms f xs (.t t) := by
  unfold gPair at h
  split at h
  · have := eq_of_beq h
    subst this
    exact ⟨_, _, _, _, _, _, rfl, rfl⟩
  · cases h

def indep (x y : AI) : Bool :=
  !dstIn x.dst (rdsI y) && !dstIn y.dst (rdsI x) && !(match x.dst, y.dst with | some a, some b => a == b | _, _ => false) &&
  (cls x.op == 0 || cls y.op == 0 || gPair x.op y.op || gPair y.op x.op || (isLdb x.op && isApp y.op) || (isApp x.op && isLdb y.op) || (decide (cls x.op ≤ 1) && decide (cls y.op ≤ 2)) || (decide (cls x.op ≤ 2) && decide (cls y.op ≤ 1)))

theorem put_get {ρ : Nat → AV} {d : Option Nat} {v : AV} {t : Nat} (h : ∀ k, d = some k → k ≠ t) : put ρ d v t = ρ t := by
  cases d with
  | none => rfl
  | some k => simp [put, h k rfl]

theorem put_swap {ρ : Nat → AV} {d e : Option Nat} {v u : AV} (h : ∀ k, d = some k → e ≠ some k) : put (put ρ d v) e u = put (put ρ e u) d v := by
  funext t
  cases d with
  | none => cases e <;> rfl
  | some k =>
    cases e with
    | none => rfl
    | some l =>
      have : k ≠ l := fun q => h k rfl (by rw [q])
      simp only [put]
      by_cases e1 : l = t
      · subst e1; simp [this]
      · simp [e1]

section
variable {C : Orc} {L : Nat}

/-- What comes of an operation with its guard: a value and a memory. -/
def gstep (C : Orc) (L : Nat) (x : AI) (ρ : Nat → AV) (st : St) : Option (AV × St) :=
  match x.guard with
  | none => aop C L x.op ρ st
  | some (g, want) => match ρ g with
    | .d (.bool b) => if b = want then aop C L x.op ρ st else some (.tup [], st)
    | .tup [] => some (.tup [], st)
    | _ => none

theorem astep_eq (x : AI) (ρ : Nat → AV) (st : St) : astep C L x ρ st = match gstep C L x ρ st with | some (v, st1) => some (put ρ x.dst v, st1) | none => none := by
  unfold astep gstep
  cases x.guard with
  | none => rfl
  | some gb =>
    obtain ⟨g, b⟩ := gb
    simp only
    split
    · rename_i h; split <;> simp_all <;> rfl
    · rename_i h; simp [h]
    · rename_i h1 h2; split <;> simp_all

theorem gstep_congr {x : AI} {ρ ρ' : Nat → AV} {st : St} (h : ∀ t ∈ rdsI x, ρ t = ρ' t) : gstep C L x ρ st = gstep C L x ρ' st := by
  unfold gstep
  cases hg : x.guard with
  | none => exact aop_congr fun t ht => h t (by simp [rdsI, ht])
  | some gb =>
    obtain ⟨g, b⟩ := gb
    simp only
    rw [h g (by simp [rdsI, hg]), aop_congr (ρ := ρ) (ρ' := ρ') fun t ht => h t (by simp [rdsI, ht])]

theorem gstep_reader {x : AI} (hc : cls x.op ≤ 1) {ρ : Nat → AV} {st st' : St} (hb : RB L x.op ρ st st') {v : AV} {st1 : St} (h : gstep C L x ρ st = some (v, st1)) : st1 = st ∧ gstep C L x ρ st' = some (v, st') := by
  unfold gstep at h ⊢
  cases hg : x.guard with
  | none => rw [hg] at h; exact (reader hc ρ hb).1 v st1 h
  | some gb =>
    obtain ⟨g, b⟩ := gb
    simp only [hg] at h ⊢
    split at h
    · split at h
      · rename_i hbb; simp only [hbb, if_true]; exact (reader hc ρ hb).1 v st1 h
      · rename_i hbb; cases h; simp [hbb]
    · cases h; exact ⟨rfl, rfl⟩
    · cases h

theorem gstep_quiet {x : AI} (hc : cls x.op ≤ 2) {ρ : Nat → AV} {st : St} {v : AV} {st1 : St} (h : gstep C L x ρ st = some (v, st1)) : Below' st.length st st1 := by
  unfold gstep at h
  cases hg : x.guard with
  | none => rw [hg] at h; exact quiet hc h
  | some gb =>
    obtain ⟨g, b⟩ := gb
    simp only [hg] at h
    split at h
    · split at h
      · exact quiet hc h
      · cases h; exact fun _ _ => rfl
    · cases h; exact fun _ _ => rfl
    · cases h

theorem frz1_len {st st1 : St} {v : AV} {d : D} (h : frz1 st v = some (d, st1)) : st1.length = st.length := by
  unfold frz1 at h
  split at h
  · cases h; rfl
  · cases h; rfl
  · split at h
    · split at h
      · cases h; simp
      · cases h
    · unfold frzb at h
      split at h
      · split at h
        · rename_i hf
          cases h
          simp [frzaL_len hf]
        · cases h
      · cases h
    · cases h
  · cases h

theorem frzL_len : ∀ {vs : List AV} {st st1 : St} {ds : List D}, frzL st vs = some (ds, st1) → st1.length = st.length
  | [], st, st1, ds, h => by simp [frzL] at h; rw [h.2]
  | v :: vs, st, st1, ds, h => by
    simp only [frzL] at h
    cases h1 : frz1 st v with
    | none => simp only [h1] at h; cases h
    | some r =>
      obtain ⟨d, st2⟩ := r
      simp only [h1] at h
      cases h2 : frzL st2 vs with
      | none => simp only [h2] at h; cases h
      | some r2 =>
        obtain ⟨ds2, st3⟩ := r2
        simp only [h2] at h
        cases h
        rw [frzL_len h2, frz1_len h1]

theorem fillE_len {ρ : Nat → AV} {sz : Nat} : ∀ {ps : List (Nat × AOpd)} {es es1 : List (List D)} {st st1 : St}, fillE ρ sz ps es st = some (es1, st1) → st1.length = st.length
  | [], es, es1, st, st1, h => by simp [fillE] at h; rw [h.2]
  | (i, x) :: ps, es, es1, st, st1, h => by
    simp only [fillE] at h
    cases h1 : frzL st (x.ev ρ).cells with
    | none => simp only [h1] at h; cases h
    | some r =>
      obtain ⟨ds, st2⟩ := r
      simp only [h1] at h
      split at h
      · rw [fillE_len h, frzL_len h1]
      · cases h

theorem wrt_len {st st1 : St} {n : Nat} {p v : AV} (h : wrt st n p v = some st1) : st1.length = st.length := by
  unfold wrt at h
  split at h
  · split at h
    · split at h
      · split at h
        · cases h; simp
        · cases h
      · split at h
        · rename_i hf
          split at h
          · split at h
            · split at h
              · cases h; simp [frzL_len hf]
              · cases h
            · cases h
          · cases h
        · cases h
      · cases h
    · cases h
  · cases h

theorem app_len {st st1 : St} {sz : Nat} {x y v : AV} (h : app st sz x y = some (v, st1)) : st.length ≤ st1.length := by
  unfold app at h
  split at h
  · split at h
    · split at h
      · cases h; simp
      · cases h
    · split at h
      · split at h
        · cases h; simp
        · cases h
      · cases h
    · cases h
  · cases h

theorem appb_len {st st1 : St} {sz : Nat} {x y v : AV} (h : appb st sz x y = some (v, st1)) : st.length ≤ st1.length := by
  unfold appb at h
  split at h
  · split at h
    · split at h
      · cases h; simp
      · cases h
    · split at h
      · split at h
        · cases h; simp
        · cases h
      · cases h
    · cases h
  · cases h

theorem frzAll_len : ∀ {bl : List Nat} {st : St}, (frzAll st bl).length = st.length
  | [], st => rfl
  | h :: t, st => by
    simp only [frzAll]
    split
    · rw [frzAll_len]; simp
    · rw [frzAll_len]

theorem mcall_len {C : Orc} {q : Bool} {ms : List Bool} {f : Nat} {vs : List AV} {st st1 : St} {v : AV} (h : mcall C q ms f vs st = some (v, st1)) : st.length ≤ st1.length := by
  unfold mcall at h
  split at h
  · cases h
  · split at h
    · split at h
      · cases h
      · split at h
        · cases h; exact Nat.le_refl _
        · split at h
          · cases h
          · cases h; rw [frzAll_len]; exact Nat.le_refl _
      · split at h
        · cases h
        · cases h; simp [frzAll_len]
    · split at h
      · cases h
      · split at h
        · cases h
        · split at h
          · cases h
          · split at h
            · cases h; simp [setAll_length, frzAll_len]
            · cases h

theorem aop_len {o : AOp} {ρ : Nat → AV} {st st1 : St} {v : AV} (h : aop C L o ρ st = some (v, st1)) : st.length ≤ st1.length := by
  by_cases h1 : cls o ≤ 1
  · have := (reader (C := C) (L := L) h1 ρ (st := st) (st' := st) (.inr (.inl fun _ _ => rfl))).1 v st1 h
    rw [this.1]; exact Nat.le_refl _
  · cases o with
    | alloc z => simp [aop] at h; rw [← h.2]; simp
    | box x =>
      simp only [aop] at h
      split at h
      · simp at h; rw [← h.2]; simp
      · cases h
    | bslice sz z n ps =>
      simp only [aop] at h
      split at h
      · rename_i hf; simp at h; rw [← h.2]; simp [fillE_len hf]
      · cases h
    | store n a x =>
      simp only [aop] at h
      split at h
      · rename_i hw; simp at h; rw [← h.2, wrt_len hw]; exact Nat.le_refl _
      · cases h
    | append sz x y => simp only [aop] at h; exact app_len h
    | appb sz x y => simp only [aop] at h; exact appb_len h
    | brow sz z n ps =>
      simp only [aop] at h
      split at h
      · simp at h; rw [← h.2]; simp
      · cases h
    | bslq sz z n ps =>
      simp only [aop] at h
      split at h
      · rename_i hf; simp at h; rw [← h.2]; simp [fillQ_len hf]
      · cases h
    | slice0 sz x =>
      simp only [aop] at h
      split at h
      · simp at h; rw [← h.2]; simp
      · simp at h; rw [← h.2]; simp
      · simp at h; rw [← h.2]; simp
      · cases h
    | mkrow sz z n c =>
      simp only [aop] at h
      split at h
      · split at h
        · simp at h; rw [← h.2]; simp
        · cases h
      · cases h
    | mksl sz z n c =>
      simp only [aop] at h
      split at h
      · split at h
        · simp at h; rw [← h.2]; simp
        · cases h
      · cases h
    | b2s x =>
      simp only [aop] at h
      split at h
      · simp at h; rw [h.2]; exact Nat.le_refl _
      · cases h
    | call q ms f xs =>
      simp only [aop] at h
      split at h
      · exact mcall_len h
      · cases h
    | callg ms f xs g =>
      simp only [aop] at h
      split at h
      · split at h
        · exact mcall_len h
        · cases h
      · cases h
    | _ => simp [cls] at h1

theorem app_bx {st st1 : St} {sz : Nat} {x y v : AV} (h : app st sz x y = some (v, st1)) : Bx st.length st st1 := by
  have key : ∀ (k : Nat) (o : AO) (s0 : St), s0.length = st.length → (∀ j, j < st.length → j ≠ k → s0[j]? = st[j]?) → (∀ cs, s0[k]? ≠ some (.box cs)) → (∀ cs, st[k]? ≠ some (.box cs)) → Bx st.length st (s0 ++ [o]) := by
    intro k o s0 hl h1 h2 h3 j hj cs
    rw [List.getElem?_append_left (by omega)]
    by_cases e : j = k
    · subst e; exact ⟨fun q => absurd q (h3 cs), fun q => absurd q (h2 cs)⟩
    · rw [h1 j hj e]
  unfold app at h
  split at h
  · split at h
    · split at h
      · cases h
        intro j hj cs
        rw [List.getElem?_append_left hj]
      · cases h
    · rename_i hh sz' i n
      split at h
      · rename_i sz'' es ho
        split at h
        · cases h
          have hlt := lt_of_getElem? ho
          refine key hh _ _ (by simp) (fun j _ e => List.getElem?_set_ne (Ne.symm e)) (fun cs => ?_) (fun cs q => by rw [ho] at q; cases q)
          rw [List.getElem?_set]
          simp [hlt]
        · cases h
      · cases h
    · cases h
  · cases h

theorem gstep_bx {x : AI} (hc : isApp x.op = true) {ρ : Nat → AV} {st : St} {v : AV} {st1 : St} (h : gstep C L x ρ st = some (v, st1)) : Bx st.length st st1 := by
  have hap : ∀ {v st1}, aop C L x.op ρ st = some (v, st1) → Bx st.length st st1 := by
    intro v st1 h
    cases ho : x.op with
    | append sz p q => rw [ho] at h; simp only [aop] at h; exact app_bx h
    | _ => rw [ho] at hc; simp [isApp] at hc
  unfold gstep at h
  cases hg : x.guard with
  | none => rw [hg] at h; exact hap h
  | some gb =>
    obtain ⟨g, b⟩ := gb
    simp only [hg] at h
    split at h
    · split at h
      · exact hap h
      · cases h; exact fun _ _ _ => Iff.rfl
    · cases h; exact fun _ _ _ => Iff.rfl
    · cases h

theorem frzAll_uw : ∀ {bl : List Nat} {st : St} (k : Nat), ((frzAll st bl)[k]?).map uw = (st[k]?).map uw
  | [], st, k => rfl
  | h :: t, st, k => by
    simp only [frzAll]
    split
    · rename_i sz es wr ho
      rw [frzAll_uw k, List.getElem?_set]
      split
      · rename_i e; subst e
        split
        · rw [ho]; rfl
        · rename_i q; exact absurd (lt_of_getElem? ho) q
      · rfl
    · exact frzAll_uw k

/-- A call leaves alone what its arguments do not lead to. -/
theorem mcall_uw {C : Orc} {ms : List Bool} {f : Nat} {vs : List AV} {st st1 : St} {v : AV} (h : mcall C false ms f vs st = some (v, st1)) {k : Nat} (hk : k < st.length) {as : List AV} {bl : List Nat} (hb : brwA st ms vs = some (as, bl))
    (hn : k ∉ reach (frzAll st bl) (hOfL as)) : (st1[k]?).map uw = (st[k]?).map uw := by
  unfold mcall at h
  rw [hb] at h
  simp only at h
  split at h
  · split at h
    · cases h
    · split at h
      · cases h; rfl
      · split at h
        · cases h
        · cases h; exact frzAll_uw k
    · split at h
      · cases h
      · cases h
        rw [List.getElem?_append_left (by rw [frzAll_len]; exact hk)]
        exact frzAll_uw k
  · rename_i h0 t hr
    rw [hr] at hn
    split at h
    · cases h
    · split at h
      · cases h
      · split at h
        · cases h
        · split at h
          · cases h
            rw [List.getElem?_append_left (by rw [setAll_length, frzAll_len]; exact hk), setAll_other _ _ _ k hn]
            exact frzAll_uw k
          · cases h

theorem gstep_uw {x : AI} {ms : List Bool} {f : AOpd} {xs : List AOpd} {t : Nat} (hc : x.op = .callg ms f xs (.t t)) {ρ : Nat → AV} {st : St} {v : AV} {st1 : St} (h : gstep C L x ρ st = some (v, st1)) {k : Nat} (hk : hd1 ((AOpd.t t).ev ρ) = some k) (hkl : k < st.length) :
    (st1[k]?).map uw = (st[k]?).map uw := by
  have hap : ∀ {v st1}, aop C L x.op ρ st = some (v, st1) → (st1[k]?).map uw = (st[k]?).map uw := by
    intro v st1 h
    rw [hc] at h
    simp only [aop] at h
    split at h
    · split at h
      · rename_i hq
        unfold apart at hq
        rw [hk] at hq
        simp only at hq
        split at hq
        · rename_i as bl hb
          refine mcall_uw h hkl hb ?_
          simpa using hq
        · cases hq
      · cases h
    · cases h
  unfold gstep at h
  cases hg : x.guard with
  | none => rw [hg] at h; exact hap h
  | some gb =>
    obtain ⟨g, b⟩ := gb
    simp only [hg] at h
    split at h
    · split at h
      · exact hap h
      · cases h; rfl
    · cases h; rfl
    · cases h

theorem gstep_len {x : AI} {ρ : Nat → AV} {st : St} {v : AV} {st1 : St} (h : gstep C L x ρ st = some (v, st1)) : st.length ≤ st1.length := by
  unfold gstep at h
  cases hg : x.guard with
  | none => rw [hg] at h; exact aop_len h
  | some gb =>
    obtain ⟨g, b⟩ := gb
    simp only [hg] at h
    split at h
    · split at h
      · exact aop_len h
      · cases h; exact Nat.le_refl _
    · cases h; exact Nat.le_refl _
    · cases h

/-- x and then y, or y and then x. -/
theorem swap {x y : AI} (hi : indep x y = true) {ρ ρ1 ρ2 : Nat → AV} {st st1 st2 : St} (hL : L ≤ st.length) (h1 : astep C L x ρ st = some (ρ1, st1)) (h2 : astep C L y ρ1 st1 = some (ρ2, st2)) :
    ∃ ρ3 st3, astep C L y ρ st = some (ρ3, st3) ∧ astep C L x ρ3 st3 = some (ρ2, st2) ∧ L ≤ st3.length := by
  simp only [indep, Bool.and_eq_true, Bool.not_eq_true', Bool.or_eq_true, beq_iff_eq, decide_eq_true_eq] at hi
  obtain ⟨⟨⟨d1, d2⟩, d3⟩, hc⟩ := hi
  have hxy : ∀ k, x.dst = some k → ∀ t ∈ rdsI y, k ≠ t := fun k hk t ht e => by
    subst e; simp [hk, dstIn, ht] at d1
  have hyx : ∀ k, y.dst = some k → ∀ t ∈ rdsI x, k ≠ t := fun k hk t ht e => by
    subst e; simp [hk, dstIn, ht] at d2
  have hdd : ∀ k, x.dst = some k → y.dst ≠ some k := fun k hk e => by simp [hk, e] at d3
  rw [astep_eq] at h1 h2
  cases g1 : gstep C L x ρ st with
  | none => simp [g1] at h1
  | some r1 =>
    obtain ⟨v, s1⟩ := r1
    simp [g1] at h1
    obtain ⟨rfl, rfl⟩ := h1
    have c2 : gstep C L y (put ρ x.dst v) s1 = gstep C L y ρ s1 := gstep_congr fun t ht => put_get fun k hk => hxy k hk t ht
    rw [c2] at h2
    cases g2 : gstep C L y ρ s1 with
    | none => simp [g2] at h2
    | some r2 =>
      obtain ⟨u, s2⟩ := r2
      simp [g2] at h2
      obtain ⟨rfl, rfl⟩ := h2
      -- y first
      have key : ∃ s3, gstep C L y ρ st = some (u, s3) ∧ gstep C L x ρ s3 = some (v, s2) ∧ L ≤ s3.length := by
        by_cases cx : cls x.op ≤ 1 ∧ (cls x.op = 0 ∨ cls y.op ≤ 2 ∨ (isLdb x.op = true ∧ isApp y.op = true) ∨ gPair x.op y.op = true)
        · obtain ⟨cx1, cx2⟩ := cx
          have e1 : s1 = st := (gstep_reader (C := C) (L := L) cx1 (st' := st) (.inr (.inl fun _ _ => rfl)) g1).1
          subst e1
          have hb : RB L x.op ρ s1 s2 := by
            rcases cx2 with h | h | ⟨h, h'⟩ | h
            · exact .inl h
            · exact .inr (.inl fun k hk => gstep_quiet (C := C) (L := L) h g2 k (by omega))
            · exact .inr (.inr (.inl ⟨h, fun k hk cs => gstep_bx (C := C) (L := L) h' g2 k (by omega) cs⟩))
            · obtain ⟨n, z, t, ms, f, xs, e1, e2⟩ := gPair_inv h
              exact .inr (.inr (.inr ⟨n, z, .t t, e1, fun k hk hkL => gstep_uw (C := C) (L := L) e2 g2 hk (by omega)⟩))
          have hx := (gstep_reader (C := C) (L := L) cx1 hb g1).2
          refine ⟨s2, g2, hx, ?_⟩
          exact Nat.le_trans hL (gstep_len g2)
        · have ldb1 : ∀ {o : AOp}, isLdb o = true → cls o ≤ 1 := fun {o} h => by cases o <;> simp [isLdb] at h <;> simp [cls]
          have gp1 : ∀ {o o' : AOp}, gPair o o' = true → cls o ≤ 1 := fun {o o'} h => by obtain ⟨n, z, t, ms, f, xs, e1, _⟩ := gPair_inv h; rw [e1]; simp [cls]
          have cy1 : cls y.op ≤ 1 ∧ (cls y.op = 0 ∨ cls x.op ≤ 2 ∨ (isLdb y.op = true ∧ isApp x.op = true) ∨ gPair y.op x.op = true) := by
            rcases hc with ((((((hc | hc) | hc) | hc) | hc) | hc) | hc) | hc
            · exact absurd ⟨by omega, .inl hc⟩ cx
            · exact ⟨by omega, .inl hc⟩
            · exact absurd ⟨gp1 hc, .inr (.inr (.inr hc))⟩ cx
            · exact ⟨gp1 hc, .inr (.inr (.inr hc))⟩
            · exact absurd ⟨ldb1 hc.1, .inr (.inr (.inl hc))⟩ cx
            · exact ⟨ldb1 hc.2, .inr (.inr (.inl ⟨hc.2, hc.1⟩))⟩
            · exact absurd ⟨hc.1, .inr (.inl hc.2)⟩ cx
            · exact ⟨hc.2, .inr (.inl hc.1)⟩
          obtain ⟨cy1, cy2⟩ := cy1
          have e1 : s2 = s1 := (gstep_reader (C := C) (L := L) cy1 (st' := s1) (.inr (.inl fun _ _ => rfl)) g2).1
          subst e1
          have hb : RB L y.op ρ s2 st := by
            rcases cy2 with h | h | ⟨h, h'⟩ | h
            · exact .inl h
            · exact .inr (.inl fun k hk => (gstep_quiet (C := C) (L := L) h g1 k (by omega)).symm)
            · exact .inr (.inr (.inl ⟨h, fun k hk cs => (gstep_bx (C := C) (L := L) h' g1 k (by omega) cs).symm⟩))
            · obtain ⟨n, z, t, ms, f, xs, e1, e2⟩ := gPair_inv h
              exact .inr (.inr (.inr ⟨n, z, .t t, e1, fun k hk hkL => (gstep_uw (C := C) (L := L) e2 g1 hk (by omega)).symm⟩))
          have hy := (gstep_reader (C := C) (L := L) cy1 hb g2).2
          exact ⟨st, hy, g1, hL⟩
      obtain ⟨s3, k1, k2, k3⟩ := key
      refine ⟨put ρ y.dst u, s3, by rw [astep_eq, k1], ?_, k3⟩
      have c3 : gstep C L x (put ρ y.dst u) s3 = gstep C L x ρ s3 := gstep_congr fun t ht => put_get fun k hk => hyx k hk t ht
      rw [astep_eq, c3, k2, put_swap hdd]

theorem astep_len {x : AI} {ρ ρ1 : Nat → AV} {st st1 : St} (h : astep C L x ρ st = some (ρ1, st1)) : st.length ≤ st1.length := by
  rw [astep_eq] at h
  cases g : gstep C L x ρ st with
  | none => simp [g] at h
  | some r =>
    obtain ⟨v, s⟩ := r
    simp [g] at h
    rw [← h.2]; exact gstep_len g

/-- Operations by their numbers. -/
def aidx (C : Orc) (L : Nat) (xs : List AI) : List Nat → (Nat → AV) → St → Option ((Nat → AV) × St)
  | [], ρ, st => some (ρ, st)
  | i :: is, ρ, st => match xs[i]? with
    | some x => match astep C L x ρ st with
      | some (ρ1, st1) => aidx C L xs is ρ1 st1
      | none => none
    | none => none

theorem aidx_range {xs : List AI} : ∀ {ys : List AI} {k : Nat} {ρ : Nat → AV} {st : St}, (∀ i : Nat, ys[i]? = xs[k + i]?) → aops C (some L) ys ρ st = aidx C L xs (List.range' k ys.length) ρ st
  | [], k, ρ, st, _ => by simp [aops, aidx]
  | y :: ys, k, ρ, st, h => by
    have h0 := h 0
    simp only [List.getElem?_cons_zero, Nat.add_zero] at h0
    simp only [aops, List.length_cons, List.range'_succ, aidx, ← h0, Option.getD_some]
    have ih : ∀ {ρ : Nat → AV} {st : St}, aops C (some L) ys ρ st = aidx C L xs (List.range' (k + 1) ys.length) ρ st := aidx_range (fun i => by
      have := h (i + 1)
      simp only [List.getElem?_cons_succ] at this
      rw [this]; congr 1; omega)
    simp only [ih]; rfl

/-- An operation that lies apart from all ahead of it may come first. -/
theorem bubble {xs : List AI} {i : Nat} {x : AI} (hx : xs[i]? = some x) : ∀ {r1 r2 : List Nat} {ρ ρ' : Nat → AV} {st st' : St}, (∀ j ∈ r1, ∀ y, xs[j]? = some y → indep y x = true) → L ≤ st.length →
    aidx C L xs (r1 ++ i :: r2) ρ st = some (ρ', st') → ∃ ρ1 st1, astep C L x ρ st = some (ρ1, st1) ∧ aidx C L xs (r1 ++ r2) ρ1 st1 = some (ρ', st') ∧ L ≤ st1.length
  | [], r2, ρ, ρ', st, st', _, hL, h => by
    simp only [List.nil_append, aidx, hx] at h
    cases hs : astep C L x ρ st with
    | none => simp [hs] at h
    | some r =>
      obtain ⟨ρ1, st1⟩ := r
      simp only [hs] at h
      exact ⟨ρ1, st1, rfl, h, Nat.le_trans hL (astep_len hs)⟩
  | j :: r1, r2, ρ, ρ', st, st', hi, hL, h => by
    simp only [List.cons_append, aidx] at h
    cases hy : xs[j]? with
    | none => simp [hy] at h
    | some y =>
      simp only [hy] at h
      cases hs : astep C L y ρ st with
      | none => simp [hs] at h
      | some r =>
        obtain ⟨ρ1, st1⟩ := r
        simp only [hs] at h
        obtain ⟨ρ2, st2, h1, h2, h3⟩ := bubble hx (fun k hk => hi k (by simp [hk])) (Nat.le_trans hL (astep_len hs)) h
        obtain ⟨ρ3, st3, g1, g2, g3⟩ := swap (hi j (by simp) y hy) hL hs h1
        refine ⟨ρ3, st3, g1, ?_, g3⟩
        simp only [List.cons_append, aidx, hy, g2]
        exact h2

end

/-! ### The check of a region that draws -/
def edgesOf (o : Oper) : List Nat := (o.after.toList.filter fun e => Region.binds .any e).map (·.on)

/-- Masks of what must have come ahead, and that they are sound. -/
def masksOk (ops : List Oper) (B : List Nat) : Bool :=
  (List.range ops.length).all fun i => match ops[i]? with
    | some o => (edgesOf o).all (fun e => decide (e < i)) && (List.range i).all fun j => !(B.getD i 0).testBit j || (edgesOf o).any fun e => e == j || (decide (j < e) && (B.getD e 0).testBit j)
    | none => false

def apartOk (xs : List AI) (B : List Nat) : Bool :=
  (List.range xs.length).all fun i => (List.range i).all fun j => (B.getD i 0).testBit j || (match xs[j]?, xs[i]? with | some y, some x => indep y x | _, _ => false)

def drawOk (ops : List Oper) (xs : List AI) : Bool := let B := (Region.before ops.toArray).toList; masksOk ops B && apartOk xs B

theorem masks_listed {ops : List Oper} {B : List Nat} (h : masksOk ops B = true) {lst : Nat → Bool} (hcl : ∀ k o, ops[k]? = some o → lst k = true → ∀ e ∈ edgesOf o, lst e = true) :
    ∀ i o, ops[i]? = some o → (∀ e ∈ edgesOf o, lst e = true) → ∀ j, j < i → (B.getD i 0).testBit j = true → lst j = true := by
  intro i
  induction i using Nat.strongRecOn with
  | _ i ih =>
    intro o ho he j hj hb
    unfold masksOk at h
    rw [List.all_eq_true] at h
    have hi := h i (by simpa using lt_of_getElem? ho)
    simp only [ho, Bool.and_eq_true, List.all_eq_true] at hi
    have hj' := hi.2 j (by simpa using hj)
    rw [hb] at hj'
    simp only [Bool.not_true, Bool.false_or, List.any_eq_true, Bool.or_eq_true, beq_iff_eq, Bool.and_eq_true, decide_eq_true_eq] at hj'
    obtain ⟨e, he1, he2⟩ := hj'
    have hlt : e < i := by simpa using hi.1 e he1
    rcases he2 with rfl | he2
    · exact he e he1
    · have hol : e < ops.length := Nat.lt_trans hlt (lt_of_getElem? ho)
      have hoe : ops[e]? = some (ops[e]'hol) := List.getElem?_eq_getElem hol
      exact ih e hlt _ hoe (hcl e _ hoe (he e he1)) j he2.1 he2.2

section
variable {P : Program} {Φ : Nat → FuncId} {N : Nat} {C : Orc} {ops : Array Oper} {Q : Exit → Act → World → Prop}

/-- What is left of a region, whatever order is picked. -/
theorem any_wp (hC : COk P Φ C) {xs : List AI} {B : List Nat} (hm : mAIs P Φ N ops xs ops.toList = true) (hB : masksOk ops.toList B = true) (hA : apartOk xs B = true) {L : Nat} :
    ∀ (rem : List Nat) (listed : Array Bool) {ρ ρ' : Nat → AV} {st st' : St} {a : Act} {w : World} {Z : Nat → Nat} {σ : Nat → Option (Nat × Nat)},
      rem.Pairwise (· < ·) → (∀ i, i ∈ rem ↔ i < ops.size ∧ listed.getD i true = false) → listed.size = ops.size →
      (∀ k o, ops.toList[k]? = some o → listed.getD k false = true → ∀ e ∈ edgesOf o, listed.getD e false = true) →
      FRel Φ N w Z σ st ρ a → L ≤ st.length → aidx C L xs rem ρ st = some (ρ', st') →
      (∀ a' w' Z' σ', FRel Φ N w' Z' σ' st' ρ' a' → Ext st.length w Z σ st w' Z' σ' st' → st.length ≤ st'.length → Q .normal a' w') →
      wpAny P .any ops Q rem.length listed a w := by
  intro rem
  generalize hn : rem.length = n
  induction n generalizing rem with
  | zero =>
    intro listed ρ ρ' st st' a w Z σ hs hr hsz hcl hF hL hrun hQ
    have : rem = [] := List.eq_nil_of_length_eq_zero hn
    subst this
    simp [aidx] at hrun
    obtain ⟨rfl, rfl⟩ := hrun
    refine ⟨?_, hQ a w Z σ hF (Ext.refl _ _ _ _ _) (Nat.le_refl _)⟩
    apply List.eq_nil_iff_forall_not_mem.2
    intro i hi
    obtain ⟨h1, o, ho, _⟩ := mem_ready.1 hi
    have := (hr i).2 ⟨(Array.getElem?_eq_some_iff.1 ho).1, h1⟩
    cases this
  | succ n ih =>
    intro listed ρ ρ' st st' a w Z σ hs hr hsz hcl hF hL hrun hQ
    obtain ⟨hlen, hget⟩ := mAIs_get hm
    -- the first of those that are left is ready
    have hready : ∀ i, i ∈ Region.ready .any ops listed ↔ i ∈ rem ∧ ∃ o, ops[i]? = some o ∧ ∀ e ∈ edgesOf o, listed.getD e false = true := by
      intro i
      rw [mem_ready, hr]
      constructor
      · rintro ⟨h1, o, ho, h2⟩
        refine ⟨⟨(Array.getElem?_eq_some_iff.1 ho).1, h1⟩, o, ho, fun e he => ?_⟩
        simp only [edgesOf, List.mem_map, List.mem_filter] at he
        obtain ⟨ed, ⟨h3, h4⟩, rfl⟩ := he
        exact h2 ed (by simpa using h3) h4
      · rintro ⟨⟨h0, h1⟩, o, ho, h2⟩
        refine ⟨h1, o, ho, fun e he hb => h2 e.on ?_⟩
        simp only [edgesOf, List.mem_map, List.mem_filter]
        exact ⟨e, ⟨by simpa using he, hb⟩, rfl⟩
    have listed_of : ∀ e, e < ops.size → e ∉ rem → listed.getD e false = true := by
      intro e he hne
      have h1 : ¬ (e < ops.size ∧ listed.getD e true = false) := fun h => hne ((hr e).2 h)
      have h2 : e < listed.size := by omega
      simp [h2] at h1 ⊢
      exact h1 he
    refine ⟨fun hnil => ?_, fun i hi => ?_⟩
    · exfalso
      cases rem with
      | nil => simp at hn
      | cons i0 rest =>
        have hi0 := (hr i0).1 (by simp)
        have ho : ops[i0]? = some ops[i0] := Array.getElem?_eq_getElem hi0.1
        have hmem : i0 ∈ Region.ready .any ops listed := by
          rw [hready]
          refine ⟨by simp, _, ho, fun e he => ?_⟩
          unfold masksOk at hB
          rw [List.all_eq_true] at hB
          have hi := hB i0 (by simpa using hi0.1)
          have ho' : ops.toList[i0]? = some ops[i0] := by simpa using ho
          simp only [ho', Bool.and_eq_true, List.all_eq_true] at hi
          have hlt : e < i0 := by simpa using hi.1 e he
          refine listed_of e (by omega) (fun hm => ?_)
          cases hm with
          | head => omega
          | tail _ hm =>
            have := (List.pairwise_cons.1 hs).1 e hm
            omega
        rw [hnil] at hmem; cases hmem
    · obtain ⟨hirem, o, ho, hedges⟩ := (hready i).1 hi
      obtain ⟨r1, r2, rfl⟩ := List.append_of_mem hirem
      have ho' : ops.toList[i]? = some o := by simpa using ho
      have hix : i < xs.length := by rw [hlen]; exact lt_of_getElem? ho'
      have hx : xs[i]? = some (xs[i]'hix) := List.getElem?_eq_getElem hix
      rw [List.pairwise_append] at hs
      obtain ⟨p1, p2, p3⟩ := hs
      have hind : ∀ j ∈ r1, ∀ y, xs[j]? = some y → indep y (xs[i]'hix) = true := by
        intro j hj y hy
        have hji : j < i := p3 j hj i (by simp)
        unfold apartOk at hA
        rw [List.all_eq_true] at hA
        have h1 := hA i (by simpa using hix)
        rw [List.all_eq_true] at h1
        have h2 := h1 j (by simpa using hji)
        simp only [hy, hx, Bool.or_eq_true] at h2
        rcases h2 with h2 | h2
        · have := masks_listed hB (lst := fun e => listed.getD e false) hcl i o ho' hedges j hji h2
          have hjr := (hr j).1 (by simp [hj])
          have h3 : j < listed.size := by omega
          simp [h3] at this hjr
          rw [this] at hjr
          simp at hjr
        · exact h2
      obtain ⟨ρ1, st1, h1, h2, h3⟩ := bubble hx hind hL hrun
      refine astep_wp hC hF ho (hget i _ _ hx ho') h1 (fun a' w' Z' σ' hF' hE' => ?_)
      have hle := astep_len h1
      refine ih (r1 ++ r2) (by simp at hn ⊢; omega) (listed.setIfInBounds i true) ?_ (fun k => ?_) (by simpa using hsz) (fun k o' hk hlk e he => ?_) hF' h3 h2 (fun a2 w2 Z2 σ2 g1 g2 g3 => hQ a2 w2 Z2 σ2 g1 (hE'.trans (g2.le hle)) (Nat.le_trans hle g3))
      · rw [List.pairwise_append]
        exact ⟨p1, (List.pairwise_cons.1 p2).2, fun x hx y hy => p3 x hx y (by simp [hy])⟩
      · have hki : k ∈ r1 ++ r2 → k ≠ i := by
          intro hk e
          subst e
          rw [List.mem_append] at hk
          rcases hk with hk | hk
          · have := p3 k hk k (by simp); omega
          · have := (List.pairwise_cons.1 p2).1 k hk; omega
        constructor
        · intro hk
          have hne := hki hk
          have := (hr k).1 (by rw [List.mem_append] at hk ⊢; rcases hk with hk | hk <;> simp [hk])
          exact ⟨this.1, by rw [getD_set_ne true (Ne.symm hne)]; exact this.2⟩
        · rintro ⟨q1, q2⟩
          have hne : k ≠ i := by
            intro e; subst e
            have : k < listed.size := by omega
            simp [this] at q2
          rw [getD_set_ne true (Ne.symm hne)] at q2
          have := (hr k).2 ⟨q1, q2⟩
          rw [List.mem_append] at this ⊢
          rcases this with h | h
          · exact .inl h
          · cases h with
            | head => exact absurd rfl hne
            | tail _ h => exact .inr h
      · by_cases hki : k = i
        · subst hki
          rw [ho'] at hk; cases hk
          exact getD_set_true (hedges e he)
        · rw [getD_set_ne false (Ne.symm hki)] at hlk
          exact getD_set_true (hcl k o' hk hlk e he)

end
end Go.Proofs.YtplgdddfhjpojaaGreat.AM
