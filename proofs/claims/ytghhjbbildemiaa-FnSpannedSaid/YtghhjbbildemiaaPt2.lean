/-
Calls: what is handed over, and what comes back. Regions: one operation in a frame; the order of the text; any order. Regions that draw their order: where the operations lie apart, every order comes to the same. Whole functions: a run of the machine is a call of the model. Calls and runs without a bound: what they unfold to. Running the machine by rewriting: one lemma for each step, and operations on words. Running the machine by rewriting: the steps. The lemmas by which simp runs the machine.
Conditions: none beyond those that each theorem states.
-/
import Derived.Test.YtghhjbbildemiaaPt1
set_option linter.all false
namespace Go.Proofs.Ytghhjbbildemiaa.AM
open Go

section
variable {P : Program} {Φ : Nat → FuncId} {w w' : World} {Z Z' Z1 : Nat → Nat} {σ σ' : Nat → Option (Nat × Nat)} {st st' st1 : St}

/-! ### Hints -/
theorem conv1_sound (S : Sim Φ w Z σ st) {cv : CV} {v v' : AV} {x : Value} (h : conv1 cv v st = some (v', st1)) (hv : VRel Φ w Z σ st v x) :
    ∃ Z' σ', Sim Φ w Z' σ' st1 ∧ VRel Φ w Z' σ' st1 v' x ∧ Ext st.length w Z σ st w Z' σ' st1 ∧ st.length ≤ st1.length := by
  cases cv with
  | keep => simp [conv1] at h; obtain ⟨rfl, rfl⟩ := h; exact ⟨Z, σ, S, hv, Ext.refl _ _ _ _ _, Nat.le_refl _⟩
  | fz =>
    simp only [conv1] at h
    split at h
    · rename_i hh sz i n
      cases hf : frz1 st (.hs hh sz i n) with
      | none => simp [hf] at h
      | some r =>
        obtain ⟨d, st2⟩ := r
        simp [hf] at h
        obtain ⟨rfl, rfl⟩ := h
        obtain ⟨Z', h1, h2, h3, _, h4⟩ := frz1_sound S hf hv
        exact ⟨Z', σ, h1, .d h3, h2, by omega⟩
    · cases h
      rw [hv.nil_inv]
      exact ⟨Z, σ, S, .d .sl0, Ext.refl _ _ _ _ _, Nat.le_refl _⟩
    · cases h; exact ⟨Z, σ, S, hv, Ext.refl _ _ _ _ _, Nat.le_refl _⟩
  | ow sz =>
    simp only [conv1] at h
    split at h
    · cases h
      rw [hv.nil_inv]
      obtain ⟨g1, g2⟩ := new_virtual S sz
      exact ⟨Z, _, g1, .hs0 get_last, g2, by simp⟩
    · cases h; exact ⟨Z, σ, S, hv, Ext.refl _ _ _ _ _, Nat.le_refl _⟩

theorem convL_sound : ∀ {vs vs' : List AV} {xs : List Value} {cvs : List CV} {st st1 : St} {Z : Nat → Nat} {σ : Nat → Option (Nat × Nat)}, Sim Φ w Z σ st → convL cvs vs st = some (vs', st1) → VRels Φ w Z σ st vs xs →
    ∃ Z' σ', Sim Φ w Z' σ' st1 ∧ VRels Φ w Z' σ' st1 vs' xs ∧ Ext st.length w Z σ st w Z' σ' st1 ∧ st.length ≤ st1.length
  | [], vs', xs, cvs, st, st1, Z, σ, S, h, hv => by
    simp [convL] at h; obtain ⟨rfl, rfl⟩ := h
    exact ⟨Z, σ, S, hv, Ext.refl _ _ _ _ _, Nat.le_refl _⟩
  | v :: vs, vs', xs, cvs, st, st1, Z, σ, S, h, hv => by
    obtain ⟨x, xs', rfl, hx, hxs⟩ := VRels.cons_inv hv
    simp only [convL] at h
    cases h1 : conv1 (cvs.headD .fz) v st with
    | none => simp only [h1] at h; cases h
    | some r =>
      obtain ⟨v1, st2⟩ := r
      simp only [h1] at h
      cases h2 : convL cvs.tail vs st2 with
      | none => simp only [h2] at h; cases h
      | some r2 =>
        obtain ⟨vs2, st3⟩ := r2
        simp only [h2] at h
        cases h
        obtain ⟨Z1, σ1, S1, hv1, E1, l1⟩ := conv1_sound S h1 hx
        obtain ⟨Z2, σ2, S2, hv2, E2, l2⟩ := convL_sound S1 h2 (hxs.mono E1)
        exact ⟨Z2, σ2, S2, .cons (hv1.mono E2) hv2, E1.trans (E2.le l1), Nat.le_trans l1 l2⟩

theorem convV_sound (S : Sim Φ w Z σ st) {cvs : List CV} {v v' : AV} {x : Value} (h : convV cvs v st = some (v', st1)) (hv : VRel Φ w Z σ st v x) :
    ∃ Z' σ', Sim Φ w Z' σ' st1 ∧ VRel Φ w Z' σ' st1 v' x ∧ Ext st.length w Z σ st w Z' σ' st1 ∧ st.length ≤ st1.length := by
  by_cases hc : ∃ cs, v = .agg cs
  · obtain ⟨cs, rfl⟩ := hc
    simp only [convV] at h
    cases h1 : convL cvs cs st with
    | none => simp only [h1] at h; cases h
    | some r =>
      obtain ⟨cs1, st2⟩ := r
      simp only [h1] at h
      cases h
      cases hv with
      | agg hl hh =>
        rename_i vs
        have hvs : VRels Φ w Z σ st cs vs.toList := ⟨by simpa using hl, fun i c y h2 h3 => hh i c y h2 (by simpa using h3)⟩
        obtain ⟨Z1, σ1, S1, hv1, E1, l1⟩ := convL_sound S h1 hvs
        exact ⟨Z1, σ1, S1, .agg (by have := hv1.1; simpa using this) (fun i c y h2 h3 => hv1.2 i c y h2 (by simpa using h3)), E1, l1⟩
  · have : convV cvs v st = conv1 (cvs.headD .fz) v st := by
      cases v <;> first | rfl | (exact absurd ⟨_, rfl⟩ hc)
    rw [this] at h
    exact conv1_sound S h hv

theorem convVs_sound : ∀ {vs vs' : List AV} {xs : List Value} {cvs : List (List CV)} {st st1 : St} {Z : Nat → Nat} {σ : Nat → Option (Nat × Nat)}, Sim Φ w Z σ st → convVs cvs vs st = some (vs', st1) → VRels Φ w Z σ st vs xs →
    ∃ Z' σ', Sim Φ w Z' σ' st1 ∧ VRels Φ w Z' σ' st1 vs' xs ∧ Ext st.length w Z σ st w Z' σ' st1 ∧ st.length ≤ st1.length
  | [], vs', xs, cvs, st, st1, Z, σ, S, h, hv => by
    simp [convVs] at h; obtain ⟨rfl, rfl⟩ := h
    exact ⟨Z, σ, S, hv, Ext.refl _ _ _ _ _, Nat.le_refl _⟩
  | v :: vs, vs', xs, cvs, st, st1, Z, σ, S, h, hv => by
    obtain ⟨x, xs', rfl, hx, hxs⟩ := VRels.cons_inv hv
    simp only [convVs] at h
    cases h1 : convV (cvs.headD []) v st with
    | none => simp only [h1] at h; cases h
    | some r =>
      obtain ⟨v1, st2⟩ := r
      simp only [h1] at h
      cases h2 : convVs cvs.tail vs st2 with
      | none => simp only [h2] at h; cases h
      | some r2 =>
        obtain ⟨vs2, st3⟩ := r2
        simp only [h2] at h
        cases h
        obtain ⟨Z1, σ1, S1, hv1, E1, l1⟩ := convV_sound S h1 hx
        obtain ⟨Z2, σ2, S2, hv2, E2, l2⟩ := convVs_sound S1 h2 (hxs.mono E1)
        exact ⟨Z2, σ2, S2, .cons (hv1.mono E2) hv2, E1.trans (E2.le l1), Nat.le_trans l1 l2⟩

/-! ### What is lent -/
theorem frzAll_sound : ∀ {bl : List Nat} {st : St} {Z : Nat → Nat}, Sim Φ w Z σ st →
    ∃ Z', Sim Φ w Z' σ (frzAll st bl) ∧ Ext st.length w Z σ st w Z' σ (frzAll st bl) ∧ (frzAll st bl).length = st.length ∧
      ∀ h sz es wr, st[h]? = some (.arr sz es wr) → ∃ wr', (frzAll st bl)[h]? = some (.arr sz es wr') ∧ (wr = false → wr' = false) ∧ (h ∈ bl → wr' = false)
  | [], st, Z, S => ⟨Z, S, Ext.refl _ _ _ _ _, rfl, fun h sz es wr hx => ⟨wr, hx, id, fun q => by cases q⟩⟩
  | k :: bl, st, Z, S => by
    have other : (∀ sz es wr, st[k]? ≠ some (.arr sz es wr)) → frzAll st (k :: bl) = frzAll st bl := by
      intro hk
      simp only [frzAll]
    by_cases hk : ∃ sz es wr, st[k]? = some (.arr sz es wr)
    · obtain ⟨sz, es, wr, hx⟩ := hk
      have e : frzAll st (k :: bl) = frzAll (st.set k (.arr sz es false)) bl := by simp only [frzAll, hx]
      obtain ⟨Z1, S1, E1, _⟩ := S.frzAny hx
      obtain ⟨Z2, S2, E2, l2, F2⟩ := frzAll_sound (bl := bl) S1
      rw [e]
      have hl : (st.set k (.arr sz es false)).length = st.length := by simp
      rw [hl] at E2 l2
      refine ⟨Z2, S2, E1.trans E2, l2, fun h sz' es' wr' hh => ?_⟩
      by_cases hkh : h = k
      · subst hkh
        rw [hx] at hh; cases hh
        obtain ⟨wr2, g1, g2, g3⟩ := F2 h sz es false (by rw [get_set hx]; simp)
        exact ⟨wr2, g1, fun _ => g2 rfl, fun _ => g2 rfl⟩
      · obtain ⟨wr2, g1, g2, g3⟩ := F2 h sz' es' wr' (by rw [get_set hx]; simp [hkh]; exact hh)
        exact ⟨wr2, g1, g2, fun hm => by
          cases hm with
          | head => exact absurd rfl hkh
          | tail _ hm => exact g3 hm⟩
    · have hk' : ∀ sz es wr, st[k]? ≠ some (.arr sz es wr) := fun sz es wr hx => hk ⟨sz, es, wr, hx⟩
      rw [other hk']
      obtain ⟨Z2, S2, E2, l2, F2⟩ := frzAll_sound (bl := bl) S
      refine ⟨Z2, S2, E2, l2, fun h sz' es' wr' hh => ?_⟩
      obtain ⟨wr2, g1, g2, g3⟩ := F2 h sz' es' wr' hh
      exact ⟨wr2, g1, g2, fun hm => by
        cases hm with
        | head => exact absurd hh (hk' sz' es' wr')
        | tail _ hm => exact g3 hm⟩

theorem brw1_sound (S1 : Sim Φ w Z1 σ st1) (E1 : Ext st.length w Z σ st w Z1 σ st1) {bl b : List Nat} (F : ∀ h sz es wr, st[h]? = some (.arr sz es wr) → h ∈ bl → st1[h]? = some (.arr sz es false))
    (hb : ∀ h ∈ b, h ∈ bl) {v v' : AV} {x : Value} (h : brw1 st v = some (v', b)) (hv : VRel Φ w Z σ st v x) : VRel Φ w Z1 σ st1 v' x := by
  unfold brw1 at h
  split at h
  · rename_i hh sz i n
    split at h
    · rename_i sz' es wr hx
      split at h
      · rename_i hc
        obtain ⟨rfl, hin⟩ := hc
        cases h
        exact .d (S1.frozen_read (F hh sz' es wr hx (hb hh (by simp))) hin (hv.mono E1))
      · cases h
    · cases h
  · cases h
    rw [hv.nil_inv]; exact .d .sl0
  · cases h; exact hv.mono E1

theorem brwL_sound (S1 : Sim Φ w Z1 σ st1) (E1 : Ext st.length w Z σ st w Z1 σ st1) {bl : List Nat} (F : ∀ h sz es wr, st[h]? = some (.arr sz es wr) → h ∈ bl → st1[h]? = some (.arr sz es false)) :
    ∀ {vs vs' : List AV} {xs : List Value} {b : List Nat}, (∀ h ∈ b, h ∈ bl) → brwL st vs = some (vs', b) → VRels Φ w Z σ st vs xs → VRels Φ w Z1 σ st1 vs' xs
  | [], vs', xs, b, _, h, hv => by
    simp [brwL] at h; obtain ⟨rfl, rfl⟩ := h
    rw [VRels.nil_inv hv]; exact .nil
  | v :: vs, vs', xs, b, hb, h, hv => by
    obtain ⟨x, xs', rfl, hx, hxs⟩ := VRels.cons_inv hv
    simp only [brwL] at h
    cases h1 : brw1 st v with
    | none => simp only [h1] at h; cases h
    | some r =>
      obtain ⟨v1, b1⟩ := r
      simp only [h1] at h
      cases h2 : brwL st vs with
      | none => simp only [h2] at h; cases h
      | some r2 =>
        obtain ⟨vs2, b2⟩ := r2
        simp only [h2] at h
        cases h
        exact .cons (brw1_sound S1 E1 F (fun h hh => hb h (by simp [hh])) h1 hx) (brwL_sound S1 E1 F (fun h hh => hb h (by simp [hh])) h2 hxs)

theorem brw_sound (S1 : Sim Φ w Z1 σ st1) (E1 : Ext st.length w Z σ st w Z1 σ st1) {bl b : List Nat} (F : ∀ h sz es wr, st[h]? = some (.arr sz es wr) → h ∈ bl → st1[h]? = some (.arr sz es false))
    (hb : ∀ h ∈ b, h ∈ bl) {v v' : AV} {x : Value} (h : brw st v = some (v', b)) (hv : VRel Φ w Z σ st v x) : VRel Φ w Z1 σ st1 v' x := by
  by_cases hc : ∃ cs, v = .agg cs
  · obtain ⟨cs, rfl⟩ := hc
    simp only [brw] at h
    cases h1 : brwL st cs with
    | none => simp only [h1] at h; cases h
    | some r =>
      obtain ⟨cs1, b1⟩ := r
      simp only [h1] at h
      cases h
      cases hv with
      | agg hl hh =>
        rename_i vs
        have := brwL_sound S1 E1 F hb h1 (xs := vs.toList) ⟨by simpa using hl, fun i c y h2 h3 => hh i c y h2 (by simpa using h3)⟩
        exact .agg (by have := this.1; simpa using this) (fun i c y h2 h3 => this.2 i c y h2 (by simpa using h3))
  · have : brw st v = brw1 st v := by
      cases v <;> first | rfl | (exact absurd ⟨_, rfl⟩ hc)
    rw [this] at h
    exact brw1_sound S1 E1 F hb h hv

theorem brwA_sound (S1 : Sim Φ w Z1 σ st1) (E1 : Ext st.length w Z σ st w Z1 σ st1) {bl : List Nat} (F : ∀ h sz es wr, st[h]? = some (.arr sz es wr) → h ∈ bl → st1[h]? = some (.arr sz es false)) :
    ∀ {vs vs' : List AV} {ms : List Bool} {xs : List Value} {b : List Nat}, (∀ h ∈ b, h ∈ bl) → brwA st ms vs = some (vs', b) → VRels Φ w Z σ st vs xs → VRels Φ w Z1 σ st1 vs' xs
  | [], vs', ms, xs, b, _, h, hv => by
    simp [brwA] at h; obtain ⟨rfl, rfl⟩ := h
    rw [VRels.nil_inv hv]; exact .nil
  | v :: vs, vs', ms, xs, b, hb, h, hv => by
    obtain ⟨x, xs', rfl, hx, hxs⟩ := VRels.cons_inv hv
    simp only [brwA] at h
    cases h1 : (if ms.headD false = true then some (v, []) else brw st v) with
    | none => simp only [h1] at h; cases h
    | some r =>
      obtain ⟨v1, b1⟩ := r
      simp only [h1] at h
      cases h2 : brwA st ms.tail vs with
      | none => simp only [h2] at h; cases h
      | some r2 =>
        obtain ⟨vs2, b2⟩ := r2
        simp only [h2] at h
        cases h
        refine .cons ?_ (brwA_sound S1 E1 F (fun h hh => hb h (by simp [hh])) h2 hxs)
        split at h1
        · cases h1; exact hx.mono E1
        · exact brw_sound S1 E1 F (fun h hh => hb h (by simp [hh])) h1 hx

/-! ### What comes back -/
mutual
theorem noSl_rel {Z2 : Nat → Nat} {σ2 : Nat → Option (Nat × Nat)} {st2 : St} {w2 : World} : ∀ (v : AV) (x : Value), noSl v = true → VRel Φ w Z σ st v x → VRel Φ w2 Z2 σ2 st2 v x
  | .d y, x, hn, hv => by
    cases hv with
    | d hd =>
      cases hd <;> simp [noSl] at hn
      · exact .d (.int _ _)
      · exact .d (.bool _)
      · exact .d (.str _)
  | .agg cs, x, hn, hv => by
    cases hv with
    | agg hl hh =>
      rename_i vs
      simp only [noSl] at hn
      have := noSlL_rel (Z2 := Z2) (σ2 := σ2) (st2 := st2) (w2 := w2) cs vs.toList hn ⟨by simpa using hl, fun i c y h2 h3 => hh i c y h2 (by simpa using h3)⟩
      exact .agg hl (fun i c y h2 h3 => this.2 i c y h2 (by simpa using h3))
  | .tup cs, x, hn, hv => by
    cases hv with
    | tup hl hh =>
      rename_i vs
      simp only [noSl] at hn
      have := noSlL_rel (Z2 := Z2) (σ2 := σ2) (st2 := st2) (w2 := w2) cs vs.toList hn ⟨by simpa using hl, fun i c y h2 h3 => hh i c y h2 (by simpa using h3)⟩
      exact .tup hl (fun i c y h2 h3 => this.2 i c y h2 (by simpa using h3))
  | .ptr .., x, hn, hv => by simp [noSl] at hn
  | .eptr .., x, hn, hv => by simp [noSl] at hn
  | .hs .., x, hn, hv => by simp [noSl] at hn
  | .fn .., x, hn, hv => by simp [noSl] at hn
  | .undef, x, hn, hv => by simp [noSl] at hn
theorem noSlL_rel {Z2 : Nat → Nat} {σ2 : Nat → Option (Nat × Nat)} {st2 : St} {w2 : World} : ∀ (vs : List AV) (xs : List Value), noSlL vs = true → VRels Φ w Z σ st vs xs → VRels Φ w2 Z2 σ2 st2 vs xs
  | [], xs, _, hv => by rw [VRels.nil_inv hv]; exact .nil
  | v :: vs, xs, hn, hv => by
    obtain ⟨x, xs', rfl, hx, hxs⟩ := VRels.cons_inv hv
    simp only [noSlL, Bool.and_eq_true] at hn
    exact .cons (noSl_rel v x hn.1 hx) (noSlL_rel vs xs' hn.2 hxs)
end

theorem setAll_length : ∀ (st : St) (hs : List Nat) (os : List AO), (setAll st hs os).length = st.length
  | st, [], os => by simp [setAll]
  | st, h :: hs, [] => by simp [setAll]
  | st, h :: hs, o :: os => by simp [setAll, setAll_length _ hs os]

theorem setAll_other : ∀ (st : St) (hs : List Nat) (os : List AO) (k : Nat), k ∉ hs → (setAll st hs os)[k]? = st[k]?
  | st, [], os, k, _ => by simp [setAll]
  | st, h :: hs, [], k, _ => by simp [setAll]
  | st, h :: hs, o :: os, k, hk => by
    simp only [setAll]
    rw [setAll_other _ hs os k (fun q => hk (by simp [q])), List.getElem?_set_ne (fun q => hk (by simp [q]))]

theorem setAll_get : ∀ (st : St) (hs : List Nat) (os : List AO) (j k : Nat), hs.Nodup → hs[j]? = some k → k < st.length → hs.length ≤ os.length → (setAll st hs os)[k]? = os[j]?
  | st, [], os, j, k, _, h, _, _ => by simp at h
  | st, h :: hs, [], j, k, _, _, _, hl => by simp at hl
  | st, h :: hs, o :: os, j, k, hn, hj, hk, hl => by
    rw [List.nodup_cons] at hn
    simp only [setAll]
    cases j with
    | zero =>
      simp at hj; subst hj
      rw [setAll_other _ hs os h hn.1]
      simp [hk]
    | succ j =>
      simp at hj
      rw [setAll_get _ hs os j k hn.2 hj (by simpa using hk) (by simpa using hl)]
      simp

/-- The caller's memory behind a call: the callee's objects at their handles, the others as they were. -/
theorem merge_sound {ord : List Nat} {os : List AO} {σc : Nat → Option (Nat × Nat)} (S1 : Sim Φ w Z σ st) (hn : ord.Nodup) (hp : pickO st ord = some os)
    (Sc : Sim Φ w' Z' σc st') (Ec : Ext ord.length w Z (σo σ ord) (renS (idx ord) os) w' Z' σc st') (hl : ord.length ≤ st'.length) :
    ∃ σm, Sim Φ w' Z' σm (setAll st ord (renS (back ord st.length) st') ++ renS (back ord st.length) (st'.drop ord.length)) ∧
      Ext st.length w Z σ st w' Z' σm (setAll st ord (renS (back ord st.length) st') ++ renS (back ord st.length) (st'.drop ord.length)) ∧
      ∀ v x, VRel Φ w' Z' σc st' v x → VRel Φ w' Z' σm (setAll st ord (renS (back ord st.length) st') ++ renS (back ord st.length) (st'.drop ord.length)) (ren (back ord st.length) v) x := by
  have hbound : ∀ (j k : Nat), ord[j]? = some k → k < st.length := by
    intro j k hj
    obtain ⟨h1, h2⟩ := pickO_get hp
    have hj' := lt_of_getElem? hj
    have := h2 j
    rw [List.getElem?_eq_getElem (by omega), hj] at this
    exact lt_of_getElem? this.symm
  -- where a handle of the caller's stands with the callee
  let inv : Nat → Option Nat := fun h => if h < st.length then idx ord h else some (ord.length + (h - st.length))
  let σm : Nat → Option (Nat × Nat) := fun h => match inv h with | some j => σc j | none => σ h
  have hback : ∀ j, j < st'.length → ∃ h, back ord st.length j = some h ∧ inv h = some j := by
    intro j hj
    unfold back
    cases hk : ord[j]? with
    | some k =>
      refine ⟨k, rfl, ?_⟩
      simp only [inv, if_pos (hbound j k hk)]
      exact idx_of_get hn hk
    | none =>
      have hj2 : ord.length ≤ j := by
        rcases Nat.lt_or_ge j ord.length with h | h
        · rw [List.getElem?_eq_getElem h] at hk; cases hk
        · exact h
      refine ⟨st.length + (j - ord.length), rfl, ?_⟩
      simp only [inv]
      rw [if_neg (by omega)]
      congr 1; omega
  have hinv : ∀ h j, inv h = some j → back ord st.length j = some h := by
    intro h j hh
    simp only [inv] at hh
    unfold back
    split at hh
    · have := idx_get hh
      simp [this]
    · cases hh
      rw [List.getElem?_eq_none (by omega)]
      simp; omega
  have hget : ∀ h, (setAll st ord (renS (back ord st.length) st') ++ renS (back ord st.length) (st'.drop ord.length))[h]? = match inv h with | some j => (st'[j]?).map (renO (back ord st.length)) | none => st[h]? := by
    intro h
    have hsl := setAll_length st ord (renS (back ord st.length) st')
    by_cases hlt : h < st.length
    · rw [List.getElem?_append_left (by omega)]
      simp only [inv, if_pos hlt]
      cases hi : idx ord h with
      | some j =>
        have hj := idx_get hi
        simp only
        rw [setAll_get st ord _ j h hn hj hlt (by rw [renS_length]; exact hl), renS_get]
      | none =>
        simp only
        refine setAll_other st ord _ h (fun hm => ?_)
        obtain ⟨j, hj⟩ := List.getElem?_of_mem hm
        rw [idx_of_get hn hj] at hi; cases hi
    · rw [List.getElem?_append_right (by omega), renS_get, List.getElem?_drop]
      simp only [inv, if_neg hlt]
      rw [hsl]
  have mpb : Mp (back ord st.length) w' Z' σc st' w' Z' σm (setAll st ord (renS (back ord st.length) st') ++ renS (back ord st.length) (st'.drop ord.length)) := by
    refine ⟨fun _ => Nat.le_refl _, fun _ _ _ => rfl, fun _ c _ _ h => ⟨c, h, rfl⟩, fun j h hj o ho => ?_⟩
    obtain ⟨h', h1, h2⟩ := hback j (lt_of_getElem? ho)
    rw [hj] at h1; cases h1
    refine ⟨renO (back ord st.length) o, by rw [hget, h2]; simp [ho], renO_le _ _, fun _ => ?_⟩
    simp only [σm, h2]
  have sig : ∀ h, h < st.length → ∀ o, st[h]? = some o → ∃ o', (setAll st ord (renS (back ord st.length) st') ++ renS (back ord st.length) (st'.drop ord.length))[h]? = some o' ∧ OLe o o' ∧ (o' ≠ .dead → σm h = σ h) := by
    intro h hh o ho
    rw [hget]
    cases hi : inv h with
    | none => exact ⟨o, ho, OLe.refl o, fun _ => by simp only [σm, hi]⟩
    | some j =>
      have hi' := hi
      simp only [inv, if_pos hh] at hi'
      have hj := idx_get hi'
      have hj2 := lt_of_getElem? hj
      have hcst : (renS (idx ord) os)[j]? = some (renO (idx ord) o) := by
        rw [renS_get, (pickO_get hp).2 j, hj]; simp [ho]
      obtain ⟨o', h1, h2, h3⟩ := Ec.sig j hj2 _ hcst
      refine ⟨renO (back ord st.length) o', by simp [h1], (renO_le (idx ord) o).trans (h2.trans (renO_le _ _)), fun hd => ?_⟩
      have : o' ≠ .dead := fun q => hd (by subst q; rfl)
      simp only [σm, hi]
      rw [h3 this]
      simp [σo, hj]
  have mon : Mon st.length w Z σ st w' Z' σm (setAll st ord (renS (back ord st.length) st') ++ renS (back ord st.length) (st'.drop ord.length)) := ⟨Ec.zle, Ec.cel, Ec.shp, sig⟩
  have livm : ∀ h, liv (setAll st ord (renS (back ord st.length) st') ++ renS (back ord st.length) (st'.drop ord.length)) h → (∃ j, inv h = some j ∧ liv st' j) ∨ (inv h = none ∧ h < st.length ∧ liv st h) := by
    intro h hlv
    cases hi : inv h with
    | some j =>
      left
      refine ⟨j, rfl, ?_⟩
      have e := hget h
      rw [hi] at e
      simp only at e
      cases hx : st'[j]? with
      | none => rw [hx] at e; simp only [Option.map_none] at e; rcases hlv with ⟨cs, q⟩ | ⟨sz, es, q⟩ <;> (rw [e] at q; cases q)
      | some x =>
        rw [hx] at e
        simp only [Option.map_some] at e
        have : (∃ cs, renO (back ord st.length) x = .box cs) ∨ ∃ sz es, renO (back ord st.length) x = .arr sz es true := by
          rcases hlv with ⟨cs, q⟩ | ⟨sz, es, q⟩ <;> rw [e] at q
          · exact .inl ⟨cs, by simpa using q⟩
          · exact .inr ⟨sz, es, by simpa using q⟩
        rcases renO_liv.1 this with ⟨cs, rfl⟩ | ⟨sz, es, rfl⟩
        · exact .inl ⟨cs, hx⟩
        · exact .inr ⟨sz, es, hx⟩
    | none =>
      right
      have e := hget h
      rw [hi] at e
      simp only at e
      refine ⟨rfl, ?_, ?_⟩
      · have := hlv.lt
        simp only [inv] at hi
        split at hi
        · assumption
        · cases hi
      · rcases hlv with ⟨cs, q⟩ | ⟨sz, es, q⟩ <;> rw [e] at q
        · exact .inl ⟨cs, q⟩
        · exact .inr ⟨sz, es, q⟩
  -- who is not handed over is not touched
  have apart : ∀ h b o, inv h = none → liv st h → σ h = some (b, o) → ¬ own (σo σ ord) (renS (idx ord) os) b := by
    intro h b o hi l s ho
    obtain ⟨k, o', hk, l', s'⟩ := sub_own hp ho
    have := S1.dis h k b o o' l l' s s'
    subst this
    obtain ⟨j, hj⟩ := List.getElem?_of_mem hk
    simp only [inv, if_pos l.lt] at hi
    rw [idx_of_get hn hj] at hi; cases hi
  have Sm : Sim Φ w' Z' σm (setAll st ord (renS (back ord st.length) st') ++ renS (back ord st.length) (st'.drop ord.length)) := by
    refine ⟨fun h o ho => ?_, fun h h' b o o' l l' s s' => ?_, Sc.z⟩
    · rw [hget] at ho
      cases hi : inv h with
      | some j =>
        rw [hi] at ho
        simp only at ho
        cases hx : st'[j]? with
        | none => rw [hx] at ho; simp at ho
        | some x =>
          rw [hx] at ho
          simp only [Option.map_some, Option.some.injEq] at ho
          subst ho
          have hσ : σm h = σc j := by simp only [σm, hi]
          cases x with
          | box cs =>
            obtain ⟨b, c, el, g1, g2, g3, g4⟩ := Sc.obj j _ hx
            exact ⟨b, c, el, hσ.trans g1, g2, g3, g4.ren mpb⟩
          | dead => trivial
          | arr sz es wr =>
            rcases Sc.obj j _ hx with ⟨g1, g2⟩ | ⟨b, o', c, el, g1, g2⟩
            · exact .inl ⟨g1, hσ.trans g2⟩
            · exact .inr ⟨b, o', c, el, hσ.trans g1, g2⟩
      | none =>
        rw [hi] at ho
        simp only at ho
        have hσ : σm h = σ h := by simp only [σm, hi]
        by_cases lv : liv st h
        · refine (S1.obj h o ho).keepM mon hσ (fun hd b o' s => ?_) (fun b o' s l => ?_) ho
          · exact Ec.blk b (S1.blt ho hd s) (apart h b o' hi lv s)
          · exact Ec.zold b (S1.lt l s) (apart h b o' hi lv s)
        · cases o with
          | box cs => exact absurd (.inl ⟨cs, ho⟩) lv
          | dead => trivial
          | arr sz es wr =>
            cases wr with
            | true => exact absurd (.inr ⟨sz, es, ho⟩) lv
            | false =>
              rcases S1.obj h _ ho with ⟨g1, g2⟩ | ⟨b, o', c, el, g1, g2, g3, g4, g5, g6⟩
              · exact .inl ⟨g1, hσ.trans g2⟩
              · obtain ⟨c', k1, k2⟩ := Ec.shp b c el (0, 0) g2
                exact .inr ⟨b, o', c', el, hσ.trans g1, k1, by omega, g4.frozen mon.stays (g6 rfl), (fun q => by cases q), fun _ => Nat.le_trans (g6 rfl) (Ec.zle b)⟩
    · rcases livm h l with ⟨j, i1, l1⟩ | ⟨i1, q1, l1⟩
      · have s1 : σc j = some (b, o) := by simpa only [σm, i1] using s
        rcases livm h' l' with ⟨j', i2, l2⟩ | ⟨i2, q2, l2⟩
        · have s2 : σc j' = some (b, o') := by simpa only [σm, i2] using s'
          have := Sc.dis j j' b o o' l1 l2 s1 s2
          subst this
          have e1 := hinv h j i1
          have e2 := hinv h' j i2
          rw [e1] at e2; cases e2; rfl
        · have s2 : σ h' = some (b, o') := by simpa only [σm, i2] using s'
          exact absurd (Ec.ow b (S1.lt l2 s2) ⟨j, o, l1, s1⟩) (apart h' b o' i2 l2 s2)
      · have s1 : σ h = some (b, o) := by simpa only [σm, i1] using s
        rcases livm h' l' with ⟨j', i2, l2⟩ | ⟨i2, q2, l2⟩
        · have s2 : σc j' = some (b, o') := by simpa only [σm, i2] using s'
          exact absurd (Ec.ow b (S1.lt l1 s1) ⟨j', o', l2, s2⟩) (apart h b o i1 l1 s1)
        · have s2 : σ h' = some (b, o') := by simpa only [σm, i2] using s'
          exact S1.dis h h' b o o' l1 l2 s1 s2
  have noown : ∀ b, ¬ own σ st b → ¬ own (σo σ ord) (renS (idx ord) os) b := fun b hb ho => by
    obtain ⟨k, o, _, l, s⟩ := sub_own hp ho
    exact hb ⟨k, o, l, s⟩
  refine ⟨σm, Sm, ⟨Ec.size, Ec.zle, fun b hb ho => Ec.zold b hb (noown b ho), Ec.cel, fun b hb ho => Ec.blk b hb (noown b ho), Ec.shp, fun b hb ho => ?_, sig, Ec.os, Ec.out⟩, fun v x hv => hv.ren mpb⟩
  obtain ⟨h, o, l, s⟩ := ho
  rcases livm h l with ⟨j, i1, l1⟩ | ⟨i1, q1, l1⟩
  · have s1 : σc j = some (b, o) := by simpa only [σm, i1] using s
    obtain ⟨k, o', _, l', s'⟩ := sub_own hp (Ec.ow b hb ⟨j, o, l1, s1⟩)
    exact ⟨k, o', l', s'⟩
  · have s1 : σ h = some (b, o) := by simpa only [σm, i1] using s
    exact ⟨h, o, l1, s1⟩

/-- What is asked of a call: it goes in and comes back, or is carried out at once. -/
def CallP (P : Program) (g : FuncId) (args : Array Value) (w : World) (R : Value → World → Prop) : Prop :=
  ((callFunc g args).run P w = .ok (.enter g args) w ∧ Calls P g args w (fun e w' => ∃ x, e = .returned x ∧ R x w')) ∨ ∃ x w', (callFunc g args).run P w = .ok (.value x) w' ∧ R x w'

theorem CallP.mono {g : FuncId} {args : Array Value} {R R' : Value → World → Prop} (h : CallP P g args w R) (hr : ∀ x w', R x w' → R' x w') : CallP P g args w R' := by
  rcases h with ⟨h1, h2⟩ | ⟨x, w', h1, h2⟩
  · exact .inl ⟨h1, h2.mono fun e w' ⟨x, he, hx⟩ => ⟨x, he, hr _ _ hx⟩⟩
  · exact .inr ⟨x, w', h1, hr _ _ h2⟩

/-- What a machine's call is good for. -/
def COk (P : Program) (Φ : Nat → FuncId) (C : Orc) : Prop :=
  ∀ f vs st v st', C f vs st = some (v, st') → ∀ w Z σ xs, Sim Φ w Z σ st → VRels Φ w Z σ st vs xs →
    CallP P (Φ f) xs.toArray w (fun x w' => ∃ Z' σ', Sim Φ w' Z' σ' st' ∧ VRel Φ w' Z' σ' st' v x ∧ Ext st.length w Z σ st w' Z' σ' st')

theorem pickO_nil : pickO st [] = some [] := rfl

theorem mcall_sound {C : Orc} (hC : COk P Φ C) (S : Sim Φ w Z σ st) {q : Bool} {ms : List Bool} {f : Nat} {vs : List AV} {xs : List Value} {v : AV} (h : mcall C q ms f vs st = some (v, st1)) (hv : VRels Φ w Z σ st vs xs) :
    CallP P (Φ f) xs.toArray w (fun x w' => ∃ Z' σ', Sim Φ w' Z' σ' st1 ∧ VRel Φ w' Z' σ' st1 v x ∧ Ext st.length w Z σ st w' Z' σ' st1) := by
  unfold mcall at h
  cases hb : brwA st ms vs with
  | none => simp only [hb] at h; cases h
  | some r =>
    obtain ⟨as, bl⟩ := r
    simp only [hb] at h
    obtain ⟨Z1, S1, E1, l1, F1⟩ := frzAll_sound (bl := bl) S
    have F : ∀ h sz es wr, st[h]? = some (.arr sz es wr) → h ∈ bl → (frzAll st bl)[h]? = some (.arr sz es false) := by
      intro h sz es wr hx hm
      obtain ⟨wr', g1, g2, g3⟩ := F1 h sz es wr hx
      rw [g3 hm] at g1; exact g1
    have hargs := brwA_sound S1 E1 F (fun h hh => hh) hb hv
    -- the call, whatever is handed over
    have call : ∀ {ord : List Nat} {os : List AO} {v0 : AV} {st' : St}, ord.Nodup → pickO (frzAll st bl) ord = some os → C f (renL (idx ord) as) (renS (idx ord) os) = some (v0, st') → ord.length ≤ st'.length →
        CallP P (Φ f) xs.toArray w (fun x w' => ∃ Z' σc σm, Sim Φ w' Z' σc st' ∧ VRel Φ w' Z' σc st' v0 x ∧ Ext ord.length w Z1 (σo σ ord) (renS (idx ord) os) w' Z' σc st' ∧
          Sim Φ w' Z' σm (setAll (frzAll st bl) ord (renS (back ord st.length) st') ++ renS (back ord st.length) (st'.drop ord.length)) ∧
          VRel Φ w' Z' σm (setAll (frzAll st bl) ord (renS (back ord st.length) st') ++ renS (back ord st.length) (st'.drop ord.length)) (ren (back ord st.length) v0) x ∧
          Ext st.length w Z σ st w' Z' σm (setAll (frzAll st bl) ord (renS (back ord st.length) st') ++ renS (back ord st.length) (st'.drop ord.length))) := by
      intro ord os v0 st' hn hp hcall hle
      refine (hC f _ _ _ _ hcall w Z1 (σo σ ord) xs (S1.sub hn hp) (hargs.ren (sub_mp hp))).mono ?_
      rintro x w' ⟨Z', σc, Sc, hx, Ec⟩
      have hlen : (renS (idx ord) os).length = ord.length := by rw [renS_length]; exact (pickO_get hp).1
      rw [hlen] at Ec
      obtain ⟨σm, g1, g2, g3⟩ := merge_sound S1 hn hp Sc Ec hle
      rw [l1] at g1 g2 g3
      exact ⟨Z', σc, σm, Sc, hx, Ec, g1, g3 _ _ hx, E1.trans g2⟩
    cases ho : reach (frzAll st bl) (hOfL as) with
    | nil =>
      simp only [ho] at h
      cases hc : C f (renL (idx []) as) [] with
      | none => simp only [hc] at h; cases h
      | some r2 =>
        obtain ⟨v0, st'⟩ := r2
        simp only [hc] at h
        cases st' with
        | nil =>
          simp only at h
          split at h
          · rename_i hns
            cases h
            refine (call (ord := []) List.nodup_nil pickO_nil hc (Nat.le_refl _)).mono ?_
            rintro x w' ⟨Z', σc, σm, Sc, hx, Ec, _, _, _⟩
            have hno : ∀ b, ¬ own (σo σ []) (renS (idx []) []) b := by
              rintro b ⟨j, o, l, s⟩
              simp [σo] at s
            have hblk : ∀ b, b < w.heap.size → w'.heap[b]? = w.heap[b]? := fun b hb => Ec.blk b hb (hno b)
            have E : Ext st.length w Z σ st w' Z σ st := by
              refine ⟨Ec.size, fun _ => Nat.le_refl _, fun _ _ _ => rfl, fun b off hz => ?_, fun b hb _ => hblk b hb, Ec.shp, fun _ _ h => h, fun h _ o ho => ⟨o, ho, OLe.refl o, fun _ => rfl⟩, Ec.os, Ec.out⟩
              exact block_cell (hblk b (S.z b (by omega))) off
            refine ⟨Z, σ, ⟨fun h o ho => (S.obj h o ho).keep E rfl (fun hd b o' s => hblk b (S.blt ho hd s)) (fun _ _ _ _ => rfl) ho, S.dis, fun b hb => Nat.lt_of_lt_of_le (S.z b hb) Ec.size⟩, noSl_rel _ _ hns hx, E⟩
          · split at h
            · cases h
            · cases h
              refine (call (ord := []) List.nodup_nil pickO_nil hc (Nat.le_refl _)).mono ?_
              rintro x w' ⟨Z', σc, σm, Sc, hx, Ec, g1, g2, g3⟩
              simp only [setAll, renS, List.drop_nil, List.append_nil] at g1 g2 g3
              exact ⟨Z', σm, g1, g2, g3⟩
        | cons o os =>
          simp only at h
          split at h
          · cases h
          · cases h
            refine (call (ord := []) List.nodup_nil pickO_nil hc (Nat.zero_le _)).mono ?_
            rintro x w' ⟨Z', σc, σm, Sc, hx, Ec, g1, g2, g3⟩
            simp only [setAll, List.length_nil, List.drop_zero] at g1 g2 g3
            exact ⟨Z', σm, g1, g2, g3⟩
    | cons h0 t =>
      simp only [ho] at h
      split at h
      · cases h
      · cases hp : pickO (frzAll st bl) (h0 :: t) with
        | none => simp only [hp] at h; cases h
        | some os =>
          simp only [hp] at h
          cases hc : C f (renL (idx (h0 :: t)) as) (renS (idx (h0 :: t)) os) with
          | none => simp only [hc] at h; cases h
          | some r2 =>
            obtain ⟨v0, st'⟩ := r2
            simp only [hc] at h
            split at h
            · rename_i hle
              cases h
              have hn : (h0 :: t).Nodup := by rw [← ho]; exact reach_nodup _ _
              refine (call hn hp hc hle).mono ?_
              rintro x w' ⟨Z', σc, σm, Sc, hx, Ec, g1, g2, g3⟩
              exact ⟨Z', σm, g1, g2, g3⟩
            · cases h


/-! ### Lending all -/
def zAll (w : World) (Z : Nat → Nat) (b : Nat) : Nat := max (Z b) (match w.heap[b]? with | some (.cells c _ _) => c.size | _ => 0)

theorem zAll_size {b : Nat} {c : Array Value} {el : TypeId} {fz : Nat × Nat} (h : w.heap[b]? = some (.cells c el fz)) : c.size ≤ zAll w Z b := by
  simp only [zAll, h]; omega

theorem stays_all : Stays w w Z (zAll w Z) := ⟨fun _ _ _ => rfl, fun b => by simp only [zAll]; omega⟩

theorem sim_all (S : Sim Φ w Z σ st) (σ2 : Nat → Option (Nat × Nat)) : Sim Φ w (zAll w Z) σ2 [] where
  obj h o ho := by simp at ho
  dis h h' b o o' l _ _ _ := by have := l.lt; simp at this
  z b hb := by
    simp only [zAll] at hb
    cases hh : w.heap[b]? with
    | none => rw [hh] at hb; exact S.z b (by simpa using hb)
    | some x => exact (Array.getElem?_eq_some_iff.1 hh).1

theorem lendD_sound (S : Sim Φ w Z σ st) {lim : Nat} {v : AV} {x : Value} {d : D} (h : lendD lim st v = some d) (hv : VRel Φ w Z σ st v x) : DRel w (zAll w Z) d x := by
  cases v with
  | d y => simp [lendD] at h; subst h; cases hv with | d hd => exact hd.mono stays_all
  | hs h' sz i n =>
    simp only [lendD] at h
    split at h
    · cases ho : st[h']? with
      | none => simp [ho] at h
      | some ob =>
        cases ob with
        | arr sz' es wr =>
          simp only [ho] at h
          split at h
          · rename_i hq
            obtain ⟨rfl, hin⟩ := hq
            cases h
            cases hv with
            | dhs hd => rw [ho] at hd; cases hd
            | hs0 => simpa using DRel.sl0
            | hse => simpa using DRel.mk_sl (xs := []) (cap := 0) (sz := 0) (by simp) (fun i e h => by simp at h) (fun i h => by simp at h)
            | hs hs ho' hn hc hb =>
              rename_i b o cap es' wr'
              rw [ho] at ho'; cases ho'
              rcases S.obj h' _ ho with ⟨h1, h2⟩ | ⟨b', o', c, el, h1, h2, h3, h4, h5, h6⟩
              · rw [hs] at h2; cases h2
              · rw [hs] at h1; cases h1
                have hl : ((es.drop i).take n).length = n := by simp; omega
                have hr : Rws w (zAll w Z) b (o + i * sz') sz' ((es.drop i).take n) := by
                  intro j e he
                  have hj : j < n := by have := lt_of_getElem? he; rwa [hl] at this
                  rw [List.getElem?_take_of_lt hj, List.getElem?_drop] at he
                  obtain ⟨h7, h8⟩ := h4 _ e he
                  exact ⟨h7, by rw [Nat.add_assoc, ← Nat.add_mul]; exact h8.keep stays_all (fun _ _ => rfl)⟩
                have hz := zAll_size (Z := Z) h2
                have := DRel.mk_sl (cap := cap) (by rw [hl]; exact hc) hr (fun j hj => by
                  rw [hl] at hj
                  have : (i + j + 1) * sz' ≤ es.length * sz' := Nat.mul_le_mul_right _ (by omega)
                  rw [Nat.add_mul, Nat.add_mul] at this
                  rw [Nat.add_mul]
                  omega)
                rw [hl] at this
                exact this
          · cases h
        | _ => simp [ho] at h
    · cases h
  | _ => simp [lendD] at h

theorem lendC_sound (S : Sim Φ w Z σ st) {lim : Nat} : ∀ {vs : List AV} {xs : List Value} {ds : List D}, lendC lim st vs = some ds → VRels Φ w Z σ st vs xs → ds.length = xs.length ∧ ∀ (j : Nat) d x, ds[j]? = some d → xs[j]? = some x → DRel w (zAll w Z) d x
  | [], xs, ds, h, hv => by
    simp [lendC] at h; subst h
    rw [VRels.nil_inv hv]; exact ⟨rfl, fun j d x h => by simp at h⟩
  | v :: vs, xs, ds, h, hv => by
    obtain ⟨x, xs', rfl, hx, hxs⟩ := VRels.cons_inv hv
    simp only [lendC] at h
    cases h1 : lendD lim st v with
    | none => simp [h1] at h
    | some d =>
      cases h2 : lendC lim st vs with
      | none => simp [h1, h2] at h
      | some ds' =>
        simp [h1, h2] at h
        subst h
        obtain ⟨g1, g2⟩ := lendC_sound S h2 hxs
        refine ⟨by simp [g1], fun j d' x' hd hx' => ?_⟩
        cases j with
        | zero => simp at hd hx'; subst hd hx'; exact lendD_sound S h1 hx
        | succ j => simp at hd hx'; exact g2 j d' x' hd hx'

theorem lendP_sound (S : Sim Φ w Z σ st) {lim h sz i f : Nat} {x : Value} {v' : AV} (hl : lendP lim st h sz i f = some v') (hv : VRel Φ w Z σ st (.ptr h sz i f) x) (σ2 : Nat → Option (Nat × Nat)) : VRel Φ w (zAll w Z) σ2 [] v' x := by
  unfold lendP at hl
  split at hl
  · cases ho : st[h]? with
    | none => simp [ho] at hl
    | some ob =>
      cases ob with
      | box cs =>
        simp only [ho] at hl
        split at hl
        · rename_i hi
          subst hi
          cases hc : lendC lim st cs with
          | none => simp [hc] at hl
          | some ds =>
            simp [hc] at hl
            subst hl
            obtain ⟨b, c, el, g1, g2, g3, g4⟩ := S.obj h _ ho
            obtain ⟨k1, k2⟩ := lendC_sound S hc g4
            have hcel : Cells w (zAll w Z) b 0 ds := by
              intro j d hj
              have hlt := lt_of_getElem? hj
              have hlt' : j < c.size := by rw [k1] at hlt; simpa using hlt
              have hcj : c[j]? = some (c[j]'hlt') := Array.getElem?_eq_getElem hlt'
              exact ⟨c[j]'hlt', by rw [cell_iff]; exact ⟨c, el, _, g2, by simpa using hcj⟩, k2 j d _ hj (by simpa using hcj)⟩
            have hz := zAll_size (Z := Z) g2
            have hsz : ds.length = c.size := by rw [k1]; simp
            cases hv with
            | bptr hs _ =>
              rename_i b' cs'
              rw [g1] at hs; cases hs
              have := VRel.eptr (Φ := Φ) (σ := σ2) (st := []) (f := f) (by omega : 0 + ds.length ≤ zAll w Z b) hcel
              simpa using this
            | aptr _ ho' => rw [ho] at ho'; cases ho'
            | dptr ho' => rw [ho] at ho'; cases ho'
        · cases hl
      | arr sz' es wr =>
        simp only [ho] at hl
        split at hl
        · rename_i hsz
          subst hsz
          cases he : es[i]? with
          | none => simp [he] at hl
          | some e =>
            simp [he] at hl
            subst hl
            cases hv with
            | bptr _ ho' => rw [ho] at ho'; cases ho'
            | dptr ho' => rw [ho] at ho'; cases ho'
            | aptr hs ho' =>
              rename_i b o es' wr'
              rw [ho] at ho'; cases ho'
              rcases S.obj h _ ho with ⟨h1, h2⟩ | ⟨b', o', c, el, h1, h2, h3, h4, h5, h6⟩
              · rw [hs] at h2; cases h2
              · rw [hs] at h1; cases h1
                obtain ⟨h7, h8⟩ := h4 i e he
                have hz := zAll_size (Z := Z) h2
                have hi := lt_of_getElem? he
                have : (i + 1) * sz' ≤ es.length * sz' := Nat.mul_le_mul_right _ hi
                rw [Nat.add_mul, Nat.one_mul] at this
                exact .eptr (by omega) (h8.keep stays_all (fun _ _ => rfl))
        · cases hl
      | dead => simp [ho] at hl
  · cases hl

mutual
theorem lend_sound (S : Sim Φ w Z σ st) {lim : Nat} (σ2 : Nat → Option (Nat × Nat)) : ∀ (v : AV) (x : Value) (v' : AV), lend lim st v = some v' → VRel Φ w Z σ st v x → VRel Φ w (zAll w Z) σ2 [] v' x
  | .d y, x, v', h, hv => by
    cases hv with
    | d hd =>
      cases y <;> simp [lend] at h <;> subst h
      case nil => cases hd; exact .d .sl0
      all_goals exact .d (hd.mono stays_all)
  | .hs h' sz i n, x, v', h, hv => by
    simp only [lend, lendH] at h
    cases hd : lendD lim st (.hs h' sz i n) with
    | none => simp [hd] at h
    | some d => simp [hd] at h; subst h; exact .d (lendD_sound S hd hv)
  | .ptr h' sz i f, x, v', h, hv => by
    simp only [lend] at h
    exact lendP_sound S h hv σ2
  | .eptr c f, x, v', h, hv => by
    simp [lend] at h; subst h
    cases hv with
    | eptr hz hc => exact .eptr (Nat.le_trans hz (stays_all.2 _)) (hc.keep stays_all (fun _ _ => rfl))
  | .fn f cs, x, v', h, hv => by
    simp only [lend] at h
    cases hl : lendL lim st cs with
    | none => simp [hl] at h
    | some cs' =>
      simp [hl] at h; subst h
      cases hv with
      | fn hlen hh =>
        rename_i vs
        have := lendL_sound S σ2 cs vs.toList cs' hl ⟨by simpa using hlen, fun i c y h2 h3 => hh i c y h2 (by simpa using h3)⟩
        exact .fn (by have := this.1; simpa using this) (fun i c y h2 h3 => this.2 i c y h2 (by simpa using h3))
  | .agg cs, x, v', h, hv => by
    simp only [lend] at h
    cases hl : lendL lim st cs with
    | none => simp [hl] at h
    | some cs' =>
      simp [hl] at h; subst h
      cases hv with
      | agg hlen hh =>
        rename_i vs
        have := lendL_sound S σ2 cs vs.toList cs' hl ⟨by simpa using hlen, fun i c y h2 h3 => hh i c y h2 (by simpa using h3)⟩
        exact .agg (by have := this.1; simpa using this) (fun i c y h2 h3 => this.2 i c y h2 (by simpa using h3))
  | .tup _, x, v', h, hv => by simp [lend] at h
  | .undef, x, v', h, hv => by simp [lend] at h
theorem lendL_sound (S : Sim Φ w Z σ st) {lim : Nat} (σ2 : Nat → Option (Nat × Nat)) : ∀ (vs : List AV) (xs : List Value) (vs' : List AV), lendL lim st vs = some vs' → VRels Φ w Z σ st vs xs → VRels Φ w (zAll w Z) σ2 [] vs' xs
  | [], xs, vs', h, hv => by
    simp [lendL] at h; subst h
    rw [VRels.nil_inv hv]; exact .nil
  | v :: vs, xs, vs', h, hv => by
    obtain ⟨x, xs', rfl, hx, hxs⟩ := VRels.cons_inv hv
    simp only [lendL] at h
    cases h1 : lend lim st v with
    | none => simp [h1] at h
    | some v1 =>
      cases h2 : lendL lim st vs with
      | none => simp [h1, h2] at h
      | some vs2 =>
        simp [h1, h2] at h
        subst h
        exact .cons (lend_sound S σ2 v x v1 h1 hx) (lendL_sound S σ2 vs xs' vs2 h2 hxs)
end

theorem lcal_sound {C : Orc} (hC : COk P Φ C) (S : Sim Φ w Z σ st) {lim f : Nat} {vs : List AV} {xs : List Value} {v : AV} (h : lcal C lim f vs st = some v) (hv : VRels Φ w Z σ st vs xs) :
    CallP P (Φ f) xs.toArray w (fun x w' => ∃ Z' σ', Sim Φ w' Z' σ' st ∧ VRel Φ w' Z' σ' st v x ∧ Ext st.length w Z σ st w' Z' σ' st) := by
  unfold lcal at h
  cases hl : lendL lim st vs with
  | none => simp [hl] at h
  | some as =>
    simp only [hl] at h
    split at h
    · rename_i u hc
      split at h
      · rename_i hns
        cases h
        refine (hC f _ _ _ _ hc w (zAll w Z) (fun _ => none) xs (sim_all S _) (lendL_sound S _ vs xs as hl hv)).mono ?_
        rintro x w' ⟨Z', σc, Sc, hx, Ec⟩
        have hno : ∀ b, ¬ own (fun _ => none) ([] : St) b := by
          rintro b ⟨j, o, l, s⟩
          cases s
        have hblk : ∀ b, b < w.heap.size → w'.heap[b]? = w.heap[b]? := fun b hb => Ec.blk b hb (hno b)
        have E : Ext st.length w Z σ st w' Z σ st := by
          refine ⟨Ec.size, fun _ => Nat.le_refl _, fun _ _ _ => rfl, fun b off hz => ?_, fun b hb _ => hblk b hb, Ec.shp, fun _ _ h => h, fun h _ o ho => ⟨o, ho, OLe.refl o, fun _ => rfl⟩, Ec.os, Ec.out⟩
          exact block_cell (hblk b (S.z b (by omega))) off
        exact ⟨Z, σ, ⟨fun h o ho => (S.obj h o ho).keep E rfl (fun hd b o' s => hblk b (S.blt ho hd s)) (fun _ _ _ _ => rfl) ho, S.dis, fun b hb => Nat.lt_of_lt_of_le (S.z b hb) Ec.size⟩, noSl_rel _ _ hns hx, E⟩
      · cases h
    · cases h

end
end Go.Proofs.Ytghhjbbildemiaa.AM

namespace Go.Proofs.Ytghhjbbildemiaa.AM
open Go

/-! ### The machine's operations against a region's -/
def mGuard (ops : Array Oper) : Option (Nat × Bool) → Option (Nat × Bool) → Bool
  | none, none => true
  | some (g, b), some (j, b') => b == b' && (match ops[j]? with | some o => o.dst == some g | none => false)
  | _, _ => false

def dstOk (N : Nat) : Option Nat → Bool
  | none => true
  | some d => decide (d < N)

def mAI (P : Program) (Φ : Nat → FuncId) (N : Nat) (ops : Array Oper) (x : AI) (o : Oper) : Bool :=
  x.dst == o.dst && dstOk N o.dst && mGuard ops x.guard o.guard && mOp P Φ x.op o.op

def mAIs (P : Program) (Φ : Nat → FuncId) (N : Nat) (ops : Array Oper) : List AI → List Oper → Bool
  | [], [] => true
  | x :: xs, o :: os => mAI P Φ N ops x o && mAIs P Φ N ops xs os
  | _, _ => false

theorem mAIs_get {P : Program} {Φ : Nat → FuncId} {N : Nat} {ops : Array Oper} : ∀ {xs : List AI} {os : List Oper}, mAIs P Φ N ops xs os = true → xs.length = os.length ∧ ∀ (i : Nat) x o, xs[i]? = some x → os[i]? = some o → mAI P Φ N ops x o = true
  | [], [], _ => ⟨rfl, fun i x o h => by simp at h⟩
  | x :: xs, o :: os, h => by
    simp only [mAIs, Bool.and_eq_true] at h
    obtain ⟨h1, h2⟩ := mAIs_get h.2
    refine ⟨by simp [h1], fun i x' o' hx ho => ?_⟩
    cases i with
    | zero => simp at hx ho; subst hx ho; exact h.1
    | succ i => simp at hx ho; exact h2 i x' o' hx ho
  | [], _ :: _, h => by simp [mAIs] at h
  | _ :: _, [], h => by simp [mAIs] at h

section
variable {P : Program} {Φ : Nat → FuncId} {N : Nat} {w w' : World} {Z Z' : Nat → Nat} {σ σ' : Nat → Option (Nat × Nat)} {st st' st1 : St} {ρ ρ1 : Nat → AV} {a : Act} {C : Orc} {lim : Nat} {ops : Array Oper} {Q : Exit → Act → World → Prop}

/-- A frame that stands for the machine's. -/
structure FRel (Φ : Nat → FuncId) (N : Nat) (w : World) (Z : Nat → Nat) (σ : Nat → Option (Nat × Nat)) (st : St) (ρ : Nat → AV) (a : Act) : Prop where
  sim : Sim Φ w Z σ st
  env : ERel Φ w Z σ st ρ a
  size : a.tmps.size = N
  defers : a.defers = []

theorem ERel.put (hE : ERel Φ w Z σ st ρ a) (E : Ext st.length w Z σ st w' Z' σ' st1) {dst : Option Nat} (hd : dstOk N dst = true) (hN : a.tmps.size = N) {v : AV} {x : Value} (hv : VRel Φ w' Z' σ' st1 v x) :
    ERel Φ w' Z' σ' st1 (AM.put ρ dst v) (a.put dst x) := by
  intro t
  cases dst with
  | none => exact (hE t).mono E
  | some d =>
    simp [dstOk] at hd
    simp only [AM.put, Act.put]
    by_cases e : d = t
    · subst e
      simp only [if_true]
      rw [show (a.tmps.setIfInBounds d x).getD d undef = x by simp [hN, hd]]
      exact hv
    · simp only [e, if_false]
      have : (a.tmps.setIfInBounds d x).getD t undef = a.tmps.getD t undef := by simp [Array.getElem?_setIfInBounds_ne e]
      rw [this]
      exact (hE t).mono E

theorem put_size (a : Act) (dst : Option Nat) (x : Value) : (a.put dst x).tmps.size = a.tmps.size := by cases dst <;> simp [Act.put]
theorem put_defers (a : Act) (dst : Option Nat) (x : Value) : (a.put dst x).defers = a.defers := by cases dst <;> rfl

theorem FRel.put (h : FRel Φ N w Z σ st ρ a) (S : Sim Φ w' Z' σ' st1) (E : Ext st.length w Z σ st w' Z' σ' st1) {dst : Option Nat} (hd : dstOk N dst = true) {v : AV} {x : Value} (hv : VRel Φ w' Z' σ' st1 v x) :
    FRel Φ N w' Z' σ' st1 (AM.put ρ dst v) (a.put dst x) :=
  ⟨S, h.env.put E hd h.size hv, by rw [put_size]; exact h.size, by rw [put_defers]; exact h.defers⟩

theorem brw1_pure {st : St} {v v' : AV} {b : List Nat} (h : brw1 [] v = some (v', b)) : brw1 st v = some (v', b) ∧ b = [] := by
  unfold brw1 at h ⊢
  split at h
  · simp at h
  · simp at h; obtain ⟨rfl, rfl⟩ := h; exact ⟨rfl, rfl⟩
  · simp at h; obtain ⟨rfl, rfl⟩ := h; exact ⟨rfl, rfl⟩

theorem brwL_pure {st : St} : ∀ {vs vs' : List AV} {b : List Nat}, brwL [] vs = some (vs', b) → brwL st vs = some (vs', b) ∧ b = []
  | [], vs', b, h => by simp [brwL] at h; obtain ⟨rfl, rfl⟩ := h; exact ⟨rfl, rfl⟩
  | v :: vs, vs', b, h => by
    simp only [brwL] at h ⊢
    cases h1 : brw1 [] v with
    | none => simp [h1] at h
    | some r =>
      obtain ⟨v1, b1⟩ := r
      cases h2 : brwL [] vs with
      | none => simp [h1, h2] at h
      | some r2 =>
        obtain ⟨vs2, b2⟩ := r2
        simp [h1, h2] at h
        obtain ⟨rfl, rfl⟩ := h
        obtain ⟨g1, rfl⟩ := brw1_pure (st := st) h1
        obtain ⟨g2, rfl⟩ := brwL_pure (st := st) h2
        simp [g1, g2]

theorem brw_pure {st : St} {v v' : AV} {b : List Nat} (h : brw [] v = some (v', b)) : brw st v = some (v', b) ∧ b = [] := by
  unfold brw at h ⊢
  split at h
  · rename_i cs
    cases h1 : brwL [] cs with
    | none => simp [h1] at h
    | some r =>
      obtain ⟨cs1, b1⟩ := r
      simp [h1] at h
      obtain ⟨rfl, rfl⟩ := h
      obtain ⟨g1, rfl⟩ := brwL_pure (st := st) h1
      simp [g1]
  · exact brw1_pure h

theorem brwA_pure {st : St} : ∀ {vs vs' : List AV} {b : List Nat}, brwA [] [] vs = some (vs', b) → brwA st [] vs = some (vs', b) ∧ b = []
  | [], vs', b, h => by simp [brwA] at h; obtain ⟨rfl, rfl⟩ := h; exact ⟨rfl, rfl⟩
  | v :: vs, vs', b, h => by
    simp only [brwA, List.headD_nil, Bool.false_eq_true, if_false, List.tail_nil] at h ⊢
    cases h1 : brw [] v with
    | none => simp [h1] at h
    | some r =>
      obtain ⟨v1, b1⟩ := r
      cases h2 : brwA [] [] vs with
      | none => simp [h1, h2] at h
      | some r2 =>
        obtain ⟨vs2, b2⟩ := r2
        simp [h1, h2] at h
        obtain ⟨rfl, rfl⟩ := h
        obtain ⟨g1, rfl⟩ := brw_pure (st := st) h1
        obtain ⟨g2, rfl⟩ := brwA_pure (st := st) h2
        simp [g1, g2]

theorem pcal_mcall {f : Nat} {vs : List AV} {v : AV} {st : St} (h : pcal C f vs = some v) : mcall C false [] f vs st = some (v, st) := by
  unfold pcal at h
  split at h
  · rename_i as hb
    split at h
    · rename_i hh
      split at h
      · rename_i u hc
        split at h
        · rename_i hn
          cases h
          unfold mcall
          simp only [(brwA_pure (st := st) hb).1, frzAll, hh, reach, ddup, boxHs, hc, hn, if_true]
        · cases h
      · cases h
    · cases h
  · cases h

/-- An operation that is carried out. -/
theorem aop_wp0 (hC : COk P Φ C) (h : FRel Φ N w Z σ st ρ a) {o : Oper} {ao : AOp} {v : AV} (hd : dstOk N o.dst = true) (hm : mOp P Φ ao o.op = true) (hr : aop C lim ao ρ st = some (v, st1)) (hnp : ∀ f xs, ao ≠ .pcall f xs) (hnl : ∀ f xs, ao ≠ .lcall f xs) {K : Act → World → Prop}
    (hK : ∀ x w' Z' σ', FRel Φ N w' Z' σ' st1 (AM.put ρ o.dst v) (a.put o.dst x) → Ext st.length w Z σ st w' Z' σ' st1 → K (a.put o.dst x) w') : o.wp P a w K Q := by
  by_cases hc : ∃ q ms f xs, ao = .call q ms f xs
  · obtain ⟨q, ms, f, xs, rfl⟩ := hc
    obtain ⟨dst, op, ty, pos, aft, g⟩ := o
    cases op <;> try (simp [mOp] at hm; done)
    rename_i c
    obtain ⟨callee, as, ts⟩ := c
    cases callee <;> try (simp [mOp] at hm; done)
    rename_i fo
    simp only [mOp, Bool.and_eq_true] at hm
    have vf := opd h.env hm.1
    have vs := opds h.env hm.2
    simp only [aop] at hr
    split at hr
    · rename_i g' caps hX
      rw [hX] at vf
      generalize hfo : a.eval fo = X at vf
      cases vf with
      | fn hl hh =>
        rename_i cvs
        have hcaps : VRels Φ w Z σ st caps cvs.toList := ⟨by simpa using hl, fun i c y h1 h2 => hh i c y h1 (by simpa using h2)⟩
        have hcall := mcall_sound hC h.sim hr (vs.append hcaps)
        have hargs : (as.toList.map a.eval ++ cvs.toList).toArray = as.map a.eval ++ cvs := by
          apply Array.ext'; simp
        rw [hargs] at hcall
        have hrun : (execOp a.eval { dst := dst, op := .call { callee := .value fo, args := as, argTypes := ts }, type := ty, pos := pos, after := aft, guard := g }).run P w = (callFunc (Φ g') (as.map a.eval ++ cvs)).run P w := by
          simp [execOp, resolve, hfo, Deferred.ofValue, invoke]
        unfold Oper.wp
        rw [hrun]
        rcases hcall with ⟨h1, h2⟩ | ⟨x, w', h1, Z', σ', S', hx, E'⟩
        · rw [h1, Oper.upon_enter]
          refine h2.mono ?_
          rintro e w' ⟨x, rfl, Z', σ', S', hx, E'⟩
          exact hK x w' Z' σ' (h.put S' E' hd hx) E'
        · rw [h1, Oper.upon_value]
          exact hK x w' Z' σ' (h.put S' E' hd hx) E'
    · cases hr
  · have hnc : ∀ q ms f xs, ao ≠ .call q ms f xs := fun q ms f xs e => hc ⟨q, ms, f, xs, e⟩
    obtain ⟨x, w', Z', σ', hrun, S', hx, E'⟩ := aop_ran (P := P) (a := a) h.sim h.env hm hnc hnp hnl hr
    unfold Oper.wp
    rcases hrun with hrun | ⟨hrun, rfl⟩
    · rw [hrun, Oper.upon_value]; exact hK x w' Z' σ' (h.put S' E' hd hx) E'
    · rw [hrun, Oper.upon_skip]; exact hK undef w' Z' σ' (h.put S' E' hd hx) E'

theorem aop_wp (hC : COk P Φ C) (h : FRel Φ N w Z σ st ρ a) {o : Oper} {ao : AOp} {v : AV} (hd : dstOk N o.dst = true) (hm : mOp P Φ ao o.op = true) (hr : aop C lim ao ρ st = some (v, st1)) {K : Act → World → Prop}
    (hK : ∀ x w' Z' σ', FRel Φ N w' Z' σ' st1 (AM.put ρ o.dst v) (a.put o.dst x) → Ext st.length w Z σ st w' Z' σ' st1 → K (a.put o.dst x) w') : o.wp P a w K Q := by
  by_cases hp : ∃ f xs, ao = .pcall f xs
  · obtain ⟨f, xs, rfl⟩ := hp
    refine aop_wp0 (lim := lim) (ao := .call false [] f xs) hC h hd ?_ ?_ (fun _ _ => by simp) (fun _ _ => by simp) hK
    · obtain ⟨dst, op, ty, pos, aft, g⟩ := o
      cases op <;> try (simp [mOp] at hm; done)
      rename_i c
      obtain ⟨callee, as, ts⟩ := c
      cases callee <;> try (simp [mOp] at hm; done)
      exact hm
    · simp only [aop] at hr ⊢
      split at hr
      · rename_i g' caps hX
        cases hq : pcal C g' (evL ρ xs ++ caps) with
        | none => simp [hq, pair2] at hr
        | some u =>
          simp [hq, pair2] at hr
          obtain ⟨rfl, rfl⟩ := hr
          exact pcal_mcall hq
      · cases hr
  · by_cases hlc : ∃ f xs, ao = .lcall f xs
    · obtain ⟨f, xs, rfl⟩ := hlc
      obtain ⟨dst, op, ty, pos, aft, g⟩ := o
      cases op <;> try (simp [mOp] at hm; done)
      rename_i c
      obtain ⟨callee, as, ts⟩ := c
      cases callee <;> try (simp [mOp] at hm; done)
      rename_i fo
      simp only [mOp, Bool.and_eq_true] at hm
      have vf := opd h.env hm.1
      have vs := opds h.env hm.2
      simp only [aop] at hr
      split at hr
      · rename_i g' caps hX
        cases hq : lcal C lim g' (evL ρ xs ++ caps) st with
        | none => simp [hq, pair2] at hr
        | some u =>
          simp [hq, pair2] at hr
          obtain ⟨rfl, rfl⟩ := hr
          rw [hX] at vf
          generalize hfo : a.eval fo = X at vf
          cases vf with
          | fn hl hh =>
            rename_i cvs
            have hcaps : VRels Φ w Z σ st caps cvs.toList := ⟨by simpa using hl, fun i c y h1 h2 => hh i c y h1 (by simpa using h2)⟩
            have hcall := lcal_sound hC h.sim hq (vs.append hcaps)
            have hargs : (as.toList.map a.eval ++ cvs.toList).toArray = as.map a.eval ++ cvs := by
              apply Array.ext'; simp
            rw [hargs] at hcall
            have hrun : (execOp a.eval { dst := dst, op := .call { callee := .value fo, args := as, argTypes := ts }, type := ty, pos := pos, after := aft, guard := g }).run P w = (callFunc (Φ g') (as.map a.eval ++ cvs)).run P w := by
              simp [execOp, resolve, hfo, Deferred.ofValue, invoke]
            unfold Oper.wp
            rw [hrun]
            rcases hcall with ⟨h1, h2⟩ | ⟨x, w', h1, Z', σ', S', hx, E'⟩
            · rw [h1, Oper.upon_enter]
              refine h2.mono ?_
              rintro e w' ⟨x, rfl, Z', σ', S', hx, E'⟩
              exact hK x w' Z' σ' (h.put S' E' hd hx) E'
            · rw [h1, Oper.upon_value]
              exact hK x w' Z' σ' (h.put S' E' hd hx) E'
      · cases hr
    · exact aop_wp0 hC h hd hm hr (fun f xs e => hp ⟨f, xs, e⟩) (fun f xs e => hlc ⟨f, xs, e⟩) hK

theorem undef_rel : VRel Φ w Z σ st (.tup []) undef := .tup rfl (fun i c v h => by simp at h)

theorem yielded_of {g j : Nat} {o : Oper} (ho : ops[j]? = some o) (hg : o.dst = some g) : yielded ops a.tmps j = match a.tmps[g]? with | some (.bool b) => some b | _ => none := by
  simp only [yielded, ho, hg, Option.bind_some]; rfl

theorem astep_wp (hC : COk P Φ C) (h : FRel Φ N w Z σ st ρ a) {i : Nat} {o : Oper} {x : AI} (hi : ops[i]? = some o) (hm : mAI P Φ N ops x o = true) (hr : astep C lim x ρ st = some (ρ1, st1)) {K : Act → World → Prop}
    (hK : ∀ a' w' Z' σ', FRel Φ N w' Z' σ' st1 ρ1 a' → Ext st.length w Z σ st w' Z' σ' st1 → K a' w') : wpOp P ops Q i K a w := by
  simp only [mAI, Bool.and_eq_true, beq_iff_eq] at hm
  obtain ⟨⟨⟨hdst, hd⟩, hg⟩, hop⟩ := hm
  unfold wpOp
  simp only [hi]
  have run : ∀ {v st1}, aop C lim x.op ρ st = some (v, st1) → (∀ a' w' Z' σ', FRel Φ N w' Z' σ' st1 (AM.put ρ x.dst v) a' → Ext st.length w Z σ st w' Z' σ' st1 → K a' w') → o.wp P a w K Q := by
    intro v st1 hv hK'
    rw [hdst] at hK'
    exact aop_wp hC h hd hop hv (fun y w' Z' σ' hF hE => hK' _ _ _ _ hF hE)
  have skip : (∀ a' w' Z' σ', FRel Φ N w' Z' σ' st (AM.put ρ x.dst (.tup [])) a' → Ext st.length w Z σ st w' Z' σ' st → K a' w') → K (a.put o.dst undef) w := by
    intro hK'
    rw [hdst] at hK'
    exact hK' _ _ _ _ (h.put h.sim (Ext.refl _ _ _ _ _) hd undef_rel) (Ext.refl _ _ _ _ _)
  unfold astep at hr
  cases hxg : x.guard with
  | none =>
    cases hog : o.guard with
    | some _ => simp [hxg, hog, mGuard] at hg
    | none =>
      simp only [hxg] at hr
      have hw : Region.wanted o (yielded ops a.tmps) = true := by simp [Region.wanted, hog]
      rw [if_pos hw]
      cases hv : aop C lim x.op ρ st with
      | none => simp [hv] at hr
      | some r =>
        obtain ⟨v, st2⟩ := r
        simp [hv] at hr
        obtain ⟨rfl, rfl⟩ := hr
        exact .inl (run hv hK)
  | some gb =>
    obtain ⟨g, want⟩ := gb
    cases hog : o.guard with
    | none => simp [hxg, hog, mGuard] at hg
    | some jb =>
      obtain ⟨j, want'⟩ := jb
      simp only [hxg, hog, mGuard, Bool.and_eq_true, beq_iff_eq] at hg
      obtain ⟨rfl, hgj⟩ := hg
      cases hoj : ops[j]? with
      | none => simp [hoj] at hgj
      | some oj =>
        simp [hoj] at hgj
        have hy := yielded_of (a := a) hoj hgj
        have hve := h.env g
        simp only [hxg] at hr
        split at hr
        · rename_i b hb
          rw [hb] at hve
          have hbv := hve.bool_inv
          have htg : a.tmps[g]? = some (.bool b) := by
            rw [Array.getD_eq_getD_getElem?] at hbv
            cases ht : a.tmps[g]? with
            | none => rw [ht] at hbv; simp [undef] at hbv
            | some y => rw [ht] at hbv; simp at hbv; rw [hbv]
          have hw : Region.wanted o (yielded ops a.tmps) = (b == want) := by
            simp [Region.wanted, hog, hy, htg]
          by_cases hbw : b = want
          · rw [if_pos (by rw [hw]; simp [hbw])]
            rw [if_pos hbw] at hr
            cases hv : aop C lim x.op ρ st with
            | none => simp [hv] at hr
            | some r =>
              obtain ⟨v, st2⟩ := r
              simp [hv] at hr
              obtain ⟨rfl, rfl⟩ := hr
              exact .inl (run hv hK)
          · rw [if_neg (by rw [hw]; simp [hbw])]
            rw [if_neg hbw] at hr
            cases hr
            exact skip hK
        · rename_i hb
          rw [hb] at hve
          have hnb : ∀ b, a.tmps[g]? ≠ some (.bool b) := by
            intro b ht
            rw [Array.getD_eq_getD_getElem?, ht] at hve
            simp at hve
            cases hve
          have hw : Region.wanted o (yielded ops a.tmps) = false := by
            simp only [Region.wanted, hog, hy]
            cases ht : a.tmps[g]? with
            | none => simp
            | some y => cases y <;> simp_all
          rw [if_neg (by simp [hw])]
          cases hr
          exact skip hK
        · cases hr

/-- The operations in the order of the text. -/
theorem aops_wp (hC : COk P Φ C) {fin : (Nat → AV) → St → Act → World → Prop} : ∀ {xs : List AI} {k : Nat} {ρ : Nat → AV} {st : St} {a : Act} {w : World} {Z : Nat → Nat} {σ : Nat → Option (Nat × Nat)} {ρ' : Nat → AV} {st' : St},
    (∀ (i : Nat) x, xs[i]? = some x → ∃ o, ops[k + i]? = some o ∧ mAI P Φ N ops x o = true) → FRel Φ N w Z σ st ρ a → aops C none xs ρ st = some (ρ', st') →
    (∀ a' w' Z' σ', FRel Φ N w' Z' σ' st' ρ' a' → Ext st.length w Z σ st w' Z' σ' st' → st.length ≤ st'.length → Q .normal a' w') → wpOps P ops Q (List.range' k xs.length) a w
  | [], k, ρ, st, a, w, Z, σ, ρ', st', _, h, hr, hQ => by
    simp [aops] at hr; obtain ⟨rfl, rfl⟩ := hr
    simp only [List.length_nil, List.range'_zero, wpOps]
    exact hQ a w Z σ h (Ext.refl _ _ _ _ _) (Nat.le_refl _)
  | x :: xs, k, ρ, st, a, w, Z, σ, ρ', st', hm, h, hr, hQ => by
    simp only [aops, Option.getD_none] at hr
    cases hs : astep C st.length x ρ st with
    | none => simp [hs] at hr
    | some r =>
      obtain ⟨ρ1, st1⟩ := r
      simp only [hs] at hr
      obtain ⟨o, ho, hmo⟩ := hm 0 x rfl
      simp only [List.length_cons, List.range'_succ]
      rw [wpOps_cons]
      refine astep_wp hC h ho hmo hs (fun a' w' Z' σ' hF hE => ?_)
      have hle : st.length ≤ st1.length := by
        rcases Nat.lt_or_ge st1.length st.length with hlt | hge
        · have h1 : st[st1.length]? = some (st[st1.length]'hlt) := List.getElem?_eq_getElem hlt
          obtain ⟨o', h2, _⟩ := hE.sig st1.length hlt _ h1
          have := lt_of_getElem? h2
          omega
        · exact hge
      refine aops_wp hC (fin := fin) (fun i y hy => ?_) hF hr (fun a2 w2 Z2 σ2 hF2 hE2 hl2 => hQ a2 w2 Z2 σ2 hF2 (hE.trans (hE2.le hle)) (Nat.le_trans hle hl2))
      obtain ⟨o', h1, h2⟩ := hm (i + 1) y (by simpa using hy)
      exact ⟨o', by rwa [show k + 1 + i = k + (i + 1) by omega], h2⟩

end
end Go.Proofs.Ytghhjbbildemiaa.AM

namespace Go.Proofs.Ytghhjbbildemiaa.AM
open Go

/-! ### What an operation reads, and what it moves -/
def tOf : AOpd → List Nat
  | .t n => [n]
  | _ => []

def tOfO : Option AOpd → List Nat
  | some x => tOf x
  | none => []

def tOfL : List AOpd → List Nat
  | [] => []
  | x :: xs => tOf x ++ tOfL xs

def tOfE : List (Nat × AOpd) → List Nat
  | [] => []
  | (_, x) :: xs => tOf x ++ tOfE xs

def tOfC : List (Nat × Nat × AOpd) → List Nat
  | [] => []
  | (_, _, x) :: xs => tOf x ++ tOfC xs

def reads : AOp → List Nat
  | .mv x => tOf x
  | .pick c a b => tOf c ++ (tOf a ++ tOf b)
  | .alloc _ => []
  | .box x => tOf x
  | .build _ ps => tOfC ps
  | .bslice _ _ _ ps => tOfE ps
  | .load _ x => tOf x
  | .store _ a v => tOf a ++ tOf v
  | .nilc x => tOf x
  | .bin _ x y => tOf x ++ tOf y
  | .eqb _ x y => tOf x ++ tOf y
  | .eqs _ _ x y => tOf x ++ tOf y
  | .un _ x => tOf x
  | .conv _ x => tOf x
  | .convs x => tOf x
  | .faddr _ x => tOf x
  | .fld _ _ x => tOf x
  | .iaddr _ x i => tOf x ++ tOf i
  | .stri x i => tOf x ++ tOf i
  | .len x => tOf x
  | .slen x => tOf x
  | .append _ x y => tOf x ++ tOf y
  | .slice _ x lo hi => tOf x ++ (tOfO lo ++ tOfO hi)
  | .strs x lo hi => tOf x ++ (tOfO lo ++ tOfO hi)
  | .ext x _ => tOf x
  | .mkfn _ cs => tOfL cs
  | .max x y => tOf x ++ tOf y
  | .min x y => tOf x ++ tOf y
  | .mksl _ _ n c => tOf n ++ tOf c
  | .b2s x => tOf x
  | .pcall f xs => tOf f ++ tOfL xs
  | .lcall f xs => tOf f ++ tOfL xs
  | .call _ _ f xs => tOf f ++ tOfL xs
  | .refuse => []

/-- 0: neither reads nor moves memory. 1: reads. 2: makes new objects. 3: anything. -/
def cls : AOp → Nat
  | .load .. => 1
  | .alloc _ => 2
  | .box _ => 2
  | .call true .. => 2
  | .call false .. => 3
  | .store .. => 3
  | .append .. => 3
  | .bslice .. => 3
  | .mksl .. => 2
  | .lcall .. => 1
  | .b2s _ => 3
  | _ => 0

theorem ev_congr {ρ ρ' : Nat → AV} {x : AOpd} (h : ∀ t ∈ tOf x, ρ t = ρ' t) : x.ev ρ = x.ev ρ' := by
  cases x <;> simp [AOpd.ev]
  exact h _ (by simp [tOf])

theorem evL_congr {ρ ρ' : Nat → AV} : ∀ {xs : List AOpd}, (∀ t ∈ tOfL xs, ρ t = ρ' t) → evL ρ xs = evL ρ' xs
  | [], _ => rfl
  | x :: xs, h => by
    simp only [evL]
    rw [ev_congr (x := x) (fun t ht => h t (by simp [tOfL, ht])), evL_congr (fun t ht => h t (by simp [tOfL, ht]))]

theorem orV_congr {ρ ρ' : Nat → AV} {n : Int} {x : Option AOpd} (h : ∀ t ∈ tOfO x, ρ t = ρ' t) : orV ρ n x = orV ρ' n x := by
  cases x with
  | none => rfl
  | some x => simp only [orV]; rw [ev_congr h]

theorem fillE_congr {ρ ρ' : Nat → AV} {sz : Nat} : ∀ {ps : List (Nat × AOpd)} {es : List (List D)} {st : St}, (∀ t ∈ tOfE ps, ρ t = ρ' t) → fillE ρ sz ps es st = fillE ρ' sz ps es st
  | [], _, _, _ => rfl
  | (i, x) :: ps, es, st, h => by
    simp only [fillE]
    rw [ev_congr (x := x) (fun t ht => h t (by simp [tOfE, ht]))]
    have ih : ∀ {es : List (List D)} {st : St}, fillE ρ sz ps es st = fillE ρ' sz ps es st := fillE_congr (fun t ht => h t (by simp [tOfE, ht]))
    simp only [ih]

theorem fillC_congr {ρ ρ' : Nat → AV} : ∀ {ps : List (Nat × Nat × AOpd)} {cs : List AV}, (∀ t ∈ tOfC ps, ρ t = ρ' t) → fillC ρ ps cs = fillC ρ' ps cs
  | [], _, _ => rfl
  | (i, n, x) :: ps, cs, h => by
    simp only [fillC]
    rw [ev_congr (x := x) (fun t ht => h t (by simp [tOfC, ht]))]
    have ih : ∀ {cs : List AV}, fillC ρ ps cs = fillC ρ' ps cs := fillC_congr (fun t ht => h t (by simp [tOfC, ht]))
    simp only [ih]

theorem aop_congr {C : Orc} {lim : Nat} {o : AOp} {ρ ρ' : Nat → AV} {st : St} (h : ∀ t ∈ reads o, ρ t = ρ' t) : aop C lim o ρ st = aop C lim o ρ' st := by
  have e1 : ∀ {x : AOpd}, (∀ t ∈ tOf x, t ∈ reads o) → x.ev ρ = x.ev ρ' := fun hx => ev_congr fun t ht => h t (hx t ht)
  cases o with
  | mv x => simp only [aop]; rw [e1 (x := x) (fun t ht => ht)]
  | pick c a b => simp only [aop]; rw [e1 (x := c) (fun t ht => by simp [reads, ht]), e1 (x := a) (fun t ht => by simp [reads, ht]), e1 (x := b) (fun t ht => by simp [reads, ht])]
  | alloc z => rfl
  | box x => simp only [aop]; rw [e1 (x := x) (fun t ht => ht)]
  | build z ps => simp only [aop]; rw [fillC_congr (ρ' := ρ') h]
  | bslice sz z n ps => simp only [aop]; rw [fillE_congr (ρ' := ρ') h]
  | load n x => simp only [aop]; rw [e1 (x := x) (fun t ht => ht)]
  | store n p x => simp only [aop]; rw [e1 (x := p) (fun t ht => by simp [reads, ht]), e1 (x := x) (fun t ht => by simp [reads, ht])]
  | nilc x => simp only [aop]; rw [e1 (x := x) (fun t ht => ht)]
  | bin op x y => simp only [aop]; rw [e1 (x := x) (fun t ht => by simp [reads, ht]), e1 (x := y) (fun t ht => by simp [reads, ht])]
  | eqb n x y => simp only [aop]; rw [e1 (x := x) (fun t ht => by simp [reads, ht]), e1 (x := y) (fun t ht => by simp [reads, ht])]
  | eqs ks n x y => simp only [aop]; rw [e1 (x := x) (fun t ht => by simp [reads, ht]), e1 (x := y) (fun t ht => by simp [reads, ht])]
  | un op x => simp only [aop]; rw [e1 (x := x) (fun t ht => ht)]
  | conv k x => simp only [aop]; rw [e1 (x := x) (fun t ht => ht)]
  | convs x => simp only [aop]; rw [e1 (x := x) (fun t ht => ht)]
  | faddr k x => simp only [aop]; rw [e1 (x := x) (fun t ht => ht)]
  | fld k n x => simp only [aop]; rw [e1 (x := x) (fun t ht => ht)]
  | iaddr k x i => simp only [aop]; rw [e1 (x := x) (fun t ht => by simp [reads, ht]), e1 (x := i) (fun t ht => by simp [reads, ht])]
  | stri x i => simp only [aop]; rw [e1 (x := x) (fun t ht => by simp [reads, ht]), e1 (x := i) (fun t ht => by simp [reads, ht])]
  | len x => simp only [aop]; rw [e1 (x := x) (fun t ht => ht)]
  | slen x => simp only [aop]; rw [e1 (x := x) (fun t ht => ht)]
  | append sz x y => simp only [aop]; rw [e1 (x := x) (fun t ht => by simp [reads, ht]), e1 (x := y) (fun t ht => by simp [reads, ht])]
  | slice sz x lo hi =>
    have hb : ∀ n, bnds ρ n lo hi = bnds ρ' n lo hi := fun n => by
      simp only [bnds]
      rw [orV_congr (x := lo) (fun t ht => h t (by simp [reads, ht])), orV_congr (x := hi) (fun t ht => h t (by simp [reads, ht]))]
    simp only [aop, slc, hb]; rw [e1 (x := x) (fun t ht => by simp [reads, ht])]
  | strs x lo hi =>
    have hb : ∀ n, bnds ρ n lo hi = bnds ρ' n lo hi := fun n => by
      simp only [bnds]
      rw [orV_congr (x := lo) (fun t ht => h t (by simp [reads, ht])), orV_congr (x := hi) (fun t ht => h t (by simp [reads, ht]))]
    simp only [aop, AM.strs, hb]; rw [e1 (x := x) (fun t ht => by simp [reads, ht])]
  | ext x i => simp only [aop]; rw [e1 (x := x) (fun t ht => ht)]
  | mkfn f cs => simp only [aop]; rw [evL_congr (ρ' := ρ') h]
  | max x y => simp only [aop]; rw [e1 (x := x) (fun t ht => by simp [reads, ht]), e1 (x := y) (fun t ht => by simp [reads, ht])]
  | min x y => simp only [aop]; rw [e1 (x := x) (fun t ht => by simp [reads, ht]), e1 (x := y) (fun t ht => by simp [reads, ht])]
  | mksl sz z n c => simp only [aop]; rw [e1 (x := n) (fun t ht => by simp [reads, ht]), e1 (x := c) (fun t ht => by simp [reads, ht])]
  | b2s x => simp only [aop]; rw [e1 (x := x) (fun t ht => ht)]
  | lcall f xs =>
    simp only [aop]
    rw [e1 (x := f) (fun t ht => by simp [reads, ht]), evL_congr (xs := xs) (ρ' := ρ') (fun t ht => h t (by simp [reads, ht]))]
  | pcall f xs =>
    simp only [aop]
    rw [e1 (x := f) (fun t ht => by simp [reads, ht]), evL_congr (xs := xs) (ρ' := ρ') (fun t ht => h t (by simp [reads, ht]))]
  | call q ms f xs =>
    simp only [aop]
    rw [e1 (x := f) (fun t ht => by simp [reads, ht]), evL_congr (xs := xs) (ρ' := ρ') (fun t ht => h t (by simp [reads, ht]))]
  | refuse => rfl

/-- Memories that a reader can't tell apart below L. -/
def Below' (L : Nat) (st st' : St) : Prop := ∀ h, h < L → st'[h]? = st[h]?

theorem rd_below {L : Nat} {st st' : St} {n : Option Nat} {p : AV} (h : Below' L st st') : rd L st' n p = rd L st n p := by
  cases p <;> simp only [rd]
  split
  · rename_i hl; rw [h _ hl]
  · rfl

theorem lendD_below {L : Nat} {st st' : St} {v : AV} (h : Below' L st st') : lendD L st' v = lendD L st v := by
  cases v <;> simp only [lendD]
  split
  · rename_i hl; rw [h _ hl]
  · rfl

theorem lendC_below {L : Nat} {st st' : St} (h : Below' L st st') : ∀ {vs : List AV}, lendC L st' vs = lendC L st vs
  | [] => rfl
  | v :: vs => by simp only [lendC, lendD_below h, lendC_below h]

theorem lendP_below {L : Nat} {st st' : St} {k sz i f : Nat} (h : Below' L st st') : lendP L st' k sz i f = lendP L st k sz i f := by
  simp only [lendP]
  split
  · rename_i hl; rw [h _ hl]; simp only [lendC_below h]
  · rfl

mutual
theorem lend_below {L : Nat} {st st' : St} (h : Below' L st st') : ∀ (v : AV), lend L st' v = lend L st v
  | .d y => by cases y <;> simp [lend]
  | .hs .. => by simp only [lend, lendH, lendD_below h]
  | .ptr .. => by simp only [lend, lendP_below h]
  | .eptr .. => by simp only [lend]
  | .fn f cs => by simp only [lend, lendL_below h cs]
  | .agg cs => by simp only [lend, lendL_below h cs]
  | .tup _ => by simp only [lend]
  | .undef => by simp only [lend]
theorem lendL_below {L : Nat} {st st' : St} (h : Below' L st st') : ∀ (vs : List AV), lendL L st' vs = lendL L st vs
  | [] => by simp only [lendL]
  | v :: vs => by simp only [lendL, lend_below h v, lendL_below h vs]
end

theorem lcal_below {C : Orc} {L f : Nat} {vs : List AV} {st st' : St} (h : Below' L st st') : lcal C L f vs st' = lcal C L f vs st := by
  simp only [lcal, lendL_below h]

/-- A reader: its value hangs on the memory below L alone, and it leaves it. -/
theorem reader {C : Orc} {L : Nat} {o : AOp} (hc : cls o ≤ 1) (ρ : Nat → AV) : ∀ {st st' : St}, (cls o = 0 ∨ Below' L st st') → (∀ v st1, aop C L o ρ st = some (v, st1) → st1 = st ∧ aop C L o ρ st' = some (v, st')) ∧ (aop C L o ρ st = none → aop C L o ρ st' = none) := by
  intro st st' hb
  have pr : ∀ (r : Option AV), (∀ v st1, pair2 r st = some (v, st1) → st1 = st ∧ pair2 r st' = some (v, st')) ∧ (pair2 r st = none → pair2 r st' = none) := by
    intro r
    cases r with
    | none => exact ⟨fun v st1 h => by simp [pair2] at h, fun _ => rfl⟩
    | some x => exact ⟨fun v st1 h => by simp [pair2] at h ⊢; exact ⟨h.2.symm, h.1⟩, fun h => by simp [pair2] at h⟩
  cases o with
  | mv x => exact ⟨fun v st1 h => by simp [aop] at h ⊢; exact ⟨h.2.symm, h.1⟩, fun h => by simp [aop] at h⟩
  | pick c a b =>
    simp only [aop]
    split
    · exact ⟨fun v st1 h => by simp at h ⊢; exact ⟨h.2.symm, h.1⟩, fun h => by simp at h⟩
    · exact ⟨fun v st1 h => by simp at h, fun _ => rfl⟩
  | alloc z => simp [cls] at hc
  | box x => simp [cls] at hc
  | build z ps =>
    simp only [aop]
    split
    · exact ⟨fun v st1 h => by simp at h ⊢; exact ⟨h.2.symm, h.1⟩, fun h => by simp at h⟩
    · exact ⟨fun v st1 h => by simp at h, fun _ => rfl⟩
  | bslice => simp [cls] at hc
  | load n x =>
    rcases hb with hb | hb
    · simp [cls] at hb
    · simp only [aop]; rw [rd_below hb]; exact pr _
  | store => simp [cls] at hc
  | nilc x =>
    simp only [aop]
    split
    · exact ⟨fun v st1 h => by simp at h ⊢; exact ⟨h.2.symm, h.1⟩, fun h => by simp at h⟩
    · exact ⟨fun v st1 h => by simp at h ⊢; exact ⟨h.2.symm, h.1⟩, fun h => by simp at h⟩
    · exact ⟨fun v st1 h => by simp at h, fun _ => rfl⟩
  | bin op x y => simp only [aop]; exact pr _
  | eqb n x y =>
    simp only [aop]
    split
    · exact ⟨fun v st1 h => by simp at h ⊢; exact ⟨h.2.symm, h.1⟩, fun h => by simp at h⟩
    · exact ⟨fun v st1 h => by simp at h, fun _ => rfl⟩
  | eqs ks n x y =>
    simp only [aop]
    split
    · split
      · exact ⟨fun v st1 h => by simp at h ⊢; exact ⟨h.2.symm, h.1⟩, fun h => by simp at h⟩
      · exact ⟨fun v st1 h => by simp at h, fun _ => rfl⟩
    · exact ⟨fun v st1 h => by simp at h, fun _ => rfl⟩
  | un op x =>
    simp only [aop]
    split
    · split
      · exact ⟨fun v st1 h => by simp at h ⊢; exact ⟨h.2.symm, h.1⟩, fun h => by simp at h⟩
      · exact ⟨fun v st1 h => by simp at h, fun _ => rfl⟩
    · exact ⟨fun v st1 h => by simp at h, fun _ => rfl⟩
  | conv k x =>
    simp only [aop]
    split
    · exact ⟨fun v st1 h => by simp at h ⊢; exact ⟨h.2.symm, h.1⟩, fun h => by simp at h⟩
    · exact ⟨fun v st1 h => by simp at h, fun _ => rfl⟩
  | convs x =>
    simp only [aop]
    split
    · exact ⟨fun v st1 h => by simp at h ⊢; exact ⟨h.2.symm, h.1⟩, fun h => by simp at h⟩
    · exact ⟨fun v st1 h => by simp at h, fun _ => rfl⟩
  | faddr k x =>
    simp only [aop]
    split
    · exact ⟨fun v st1 h => by simp at h ⊢; exact ⟨h.2.symm, h.1⟩, fun h => by simp at h⟩
    · exact ⟨fun v st1 h => by simp at h ⊢; exact ⟨h.2.symm, h.1⟩, fun h => by simp at h⟩
    · exact ⟨fun v st1 h => by simp at h, fun _ => rfl⟩
  | fld k n x =>
    simp only [aop]
    split
    · exact pr _
    · exact ⟨fun v st1 h => by simp at h, fun _ => rfl⟩
  | iaddr k x i => simp only [aop]; exact pr _
  | stri x i =>
    simp only [aop]
    split
    · split
      · split
        · exact ⟨fun v st1 h => by simp at h ⊢; exact ⟨h.2.symm, h.1⟩, fun h => by simp at h⟩
        · exact ⟨fun v st1 h => by simp at h, fun _ => rfl⟩
      · exact ⟨fun v st1 h => by simp at h, fun _ => rfl⟩
    · exact ⟨fun v st1 h => by simp at h, fun _ => rfl⟩
  | len x => simp only [aop]; exact pr _
  | slen x =>
    simp only [aop]
    split
    · exact ⟨fun v st1 h => by simp at h ⊢; exact ⟨h.2.symm, h.1⟩, fun h => by simp at h⟩
    · exact ⟨fun v st1 h => by simp at h, fun _ => rfl⟩
  | append => simp [cls] at hc
  | slice sz x lo hi => simp only [aop]; exact pr _
  | strs x lo hi => simp only [aop]; exact pr _
  | ext x i =>
    simp only [aop]
    split
    · split
      · exact ⟨fun v st1 h => by simp at h ⊢; exact ⟨h.2.symm, h.1⟩, fun h => by simp at h⟩
      · exact ⟨fun v st1 h => by simp at h, fun _ => rfl⟩
    · exact ⟨fun v st1 h => by simp at h, fun _ => rfl⟩
  | mkfn f cs => exact ⟨fun v st1 h => by simp [aop] at h ⊢; exact ⟨h.2.symm, h.1⟩, fun h => by simp [aop] at h⟩
  | max x y =>
    simp only [aop]
    split
    · exact ⟨fun v st1 h => by simp at h ⊢; exact ⟨h.2.symm, h.1⟩, fun h => by simp at h⟩
    · exact ⟨fun v st1 h => by simp at h, fun _ => rfl⟩
  | min x y =>
    simp only [aop]
    split
    · exact ⟨fun v st1 h => by simp at h ⊢; exact ⟨h.2.symm, h.1⟩, fun h => by simp at h⟩
    · exact ⟨fun v st1 h => by simp at h, fun _ => rfl⟩
  | mksl => simp [cls] at hc
  | b2s => simp [cls] at hc
  | lcall f xs =>
    rcases hb with hb | hb
    · simp [cls] at hb
    · simp only [aop]
      split
      · rw [lcal_below hb]; exact pr _
      · exact ⟨fun v st1 h => by simp at h, fun _ => rfl⟩
  | pcall f xs =>
    simp only [aop]
    split
    · exact pr _
    · exact ⟨fun v st1 h => by simp at h, fun _ => rfl⟩
  | call q ms f xs => cases q <;> simp [cls] at hc
  | refuse => exact ⟨fun v st1 h => by simp [aop] at h, fun _ => rfl⟩

theorem mcall_quiet {C : Orc} {ms : List Bool} {f : Nat} {vs : List AV} {st st1 : St} {v : AV} (h : mcall C true ms f vs st = some (v, st1)) : Below' st.length st st1 := by
  unfold mcall at h
  cases hb : brwA st ms vs with
  | none => simp only [hb] at h; cases h
  | some r =>
    obtain ⟨as, bl⟩ := r
    simp only [hb] at h
    have hfz : bl = [] → frzAll st bl = st := fun e => by subst e; rfl
    split at h
    · split at h
      · cases h
      · split at h
        · cases h; exact fun _ _ => rfl
        · split at h
          · cases h
          · rename_i hq
            cases h
            have : bl = [] := by simpa using hq
            rw [hfz this]; exact fun _ _ => rfl
      · split at h
        · cases h
        · rename_i hq
          cases h
          have : bl = [] := by simpa using hq
          rw [hfz this]
          intro k hk
          rw [List.getElem?_append_left hk]
    · simp at h

theorem quiet {C : Orc} {L : Nat} {o : AOp} (hc : cls o ≤ 2) {ρ : Nat → AV} {st st1 : St} {v : AV} (h : aop C L o ρ st = some (v, st1)) : Below' st.length st st1 := by
  by_cases h1 : cls o ≤ 1
  · have := (reader (C := C) (L := L) h1 ρ (st := st) (st' := st) (.inr fun _ _ => rfl)).1 v st1 h
    rw [this.1]; exact fun _ _ => rfl
  · cases o with
    | alloc z => simp [aop] at h; obtain ⟨_, rfl⟩ := h; intro k hk; rw [List.getElem?_append_left hk]
    | box x =>
      simp only [aop] at h
      split at h
      · simp at h; obtain ⟨_, rfl⟩ := h; intro k hk; rw [List.getElem?_append_left hk]
      · cases h
    | call q ms f xs =>
      cases q with
      | false => simp [cls] at hc
      | true =>
        simp only [aop] at h
        split at h
        · exact mcall_quiet h
        · cases h
    | bslice => simp [cls] at hc
    | store => simp [cls] at hc
    | append => simp [cls] at hc
    | mksl sz z n c =>
      simp only [aop] at h
      split at h
      · split at h
        · simp at h; obtain ⟨_, rfl⟩ := h; intro k hk; rw [List.getElem?_append_left hk]
        · cases h
      · cases h
    | b2s => simp [cls] at hc
    | _ => simp [cls] at h1

/-! ### Two operations apart -/
def rdsI (x : AI) : List Nat := (match x.guard with | some (g, _) => [g] | none => []) ++ reads x.op

def dstIn (d : Option Nat) (l : List Nat) : Bool := match d with | some t => l.contains t | none => false

def indep (x y : AI) : Bool :=
  !dstIn x.dst (rdsI y) && !dstIn y.dst (rdsI x) && !(match x.dst, y.dst with | some a, some b => a == b | _, _ => false) &&
  (cls x.op == 0 || cls y.op == 0 || (decide (cls x.op ≤ 1) && decide (cls y.op ≤ 2)) || (decide (cls x.op ≤ 2) && decide (cls y.op ≤ 1)))

theorem put_get {ρ : Nat → AV} {d : Option Nat} {v : AV} {t : Nat} (h : ∀ k, d = some k → k ≠ t) : put ρ d v t = ρ t := by
  cases d with
  | none => rfl
  | some k => simp [put, h k rfl]

theorem put_swap {ρ : Nat → AV} {d e : Option Nat} {v u : AV} (h : ∀ k, d = some k → e ≠ some k) : put (put ρ d v) e u = put (put ρ e u) d v := by
  funext t
  cases d with
  | none => cases e <;> rfl
  | some k =>
    cases e with
    | none => rfl
    | some l =>
      have : k ≠ l := fun q => h k rfl (by rw [q])
      simp only [put]
      by_cases e1 : l = t
      · subst e1; simp [this]
      · simp [e1]

section
variable {C : Orc} {L : Nat}

/-- What comes of an operation with its guard: a value and a memory. -/
def gstep (C : Orc) (L : Nat) (x : AI) (ρ : Nat → AV) (st : St) : Option (AV × St) :=
  match x.guard with
  | none => aop C L x.op ρ st
  | some (g, want) => match ρ g with
    | .d (.bool b) => if b = want then aop C L x.op ρ st else some (.tup [], st)
    | .tup [] => some (.tup [], st)
    | _ => none

theorem astep_eq (x : AI) (ρ : Nat → AV) (st : St) : astep C L x ρ st = match gstep C L x ρ st with | some (v, st1) => some (put ρ x.dst v, st1) | none => none := by
  unfold astep gstep
  cases x.guard with
  | none => rfl
  | some gb =>
    obtain ⟨g, b⟩ := gb
    simp only
    split
    · rename_i h; split <;> simp_all <;> rfl
    · rename_i h; simp [h]
    · rename_i h1 h2; split <;> simp_all

theorem gstep_congr {x : AI} {ρ ρ' : Nat → AV} {st : St} (h : ∀ t ∈ rdsI x, ρ t = ρ' t) : gstep C L x ρ st = gstep C L x ρ' st := by
  unfold gstep
  cases hg : x.guard with
  | none => exact aop_congr fun t ht => h t (by simp [rdsI, ht])
  | some gb =>
    obtain ⟨g, b⟩ := gb
    simp only
    rw [h g (by simp [rdsI, hg]), aop_congr (ρ := ρ) (ρ' := ρ') fun t ht => h t (by simp [rdsI, ht])]

theorem gstep_reader {x : AI} (hc : cls x.op ≤ 1) {ρ : Nat → AV} {st st' : St} (hb : cls x.op = 0 ∨ Below' L st st') {v : AV} {st1 : St} (h : gstep C L x ρ st = some (v, st1)) : st1 = st ∧ gstep C L x ρ st' = some (v, st') := by
  unfold gstep at h ⊢
  cases hg : x.guard with
  | none => rw [hg] at h; exact (reader hc ρ hb).1 v st1 h
  | some gb =>
    obtain ⟨g, b⟩ := gb
    simp only [hg] at h ⊢
    split at h
    · split at h
      · rename_i hbb; simp only [hbb, if_true]; exact (reader hc ρ hb).1 v st1 h
      · rename_i hbb; cases h; simp [hbb]
    · cases h; exact ⟨rfl, rfl⟩
    · cases h

theorem gstep_quiet {x : AI} (hc : cls x.op ≤ 2) {ρ : Nat → AV} {st : St} {v : AV} {st1 : St} (h : gstep C L x ρ st = some (v, st1)) : Below' st.length st st1 := by
  unfold gstep at h
  cases hg : x.guard with
  | none => rw [hg] at h; exact quiet hc h
  | some gb =>
    obtain ⟨g, b⟩ := gb
    simp only [hg] at h
    split at h
    · split at h
      · exact quiet hc h
      · cases h; exact fun _ _ => rfl
    · cases h; exact fun _ _ => rfl
    · cases h

theorem frz1_len {st st1 : St} {v : AV} {d : D} (h : frz1 st v = some (d, st1)) : st1.length = st.length := by
  unfold frz1 at h
  split at h
  · cases h; rfl
  · cases h; rfl
  · split at h
    · split at h
      · cases h; simp
      · cases h
    · cases h
  · cases h

theorem frzL_len : ∀ {vs : List AV} {st st1 : St} {ds : List D}, frzL st vs = some (ds, st1) → st1.length = st.length
  | [], st, st1, ds, h => by simp [frzL] at h; rw [h.2]
  | v :: vs, st, st1, ds, h => by
    simp only [frzL] at h
    cases h1 : frz1 st v with
    | none => simp only [h1] at h; cases h
    | some r =>
      obtain ⟨d, st2⟩ := r
      simp only [h1] at h
      cases h2 : frzL st2 vs with
      | none => simp only [h2] at h; cases h
      | some r2 =>
        obtain ⟨ds2, st3⟩ := r2
        simp only [h2] at h
        cases h
        rw [frzL_len h2, frz1_len h1]

theorem fillE_len {ρ : Nat → AV} {sz : Nat} : ∀ {ps : List (Nat × AOpd)} {es es1 : List (List D)} {st st1 : St}, fillE ρ sz ps es st = some (es1, st1) → st1.length = st.length
  | [], es, es1, st, st1, h => by simp [fillE] at h; rw [h.2]
  | (i, x) :: ps, es, es1, st, st1, h => by
    simp only [fillE] at h
    cases h1 : frzL st (x.ev ρ).cells with
    | none => simp only [h1] at h; cases h
    | some r =>
      obtain ⟨ds, st2⟩ := r
      simp only [h1] at h
      split at h
      · rw [fillE_len h, frzL_len h1]
      · cases h

theorem wrt_len {st st1 : St} {n : Nat} {p v : AV} (h : wrt st n p v = some st1) : st1.length = st.length := by
  unfold wrt at h
  split at h
  · split at h
    · split at h
      · split at h
        · cases h; simp
        · cases h
      · split at h
        · rename_i hf
          split at h
          · split at h
            · split at h
              · cases h; simp [frzL_len hf]
              · cases h
            · cases h
          · cases h
        · cases h
      · cases h
    · cases h
  · cases h

theorem app_len {st st1 : St} {sz : Nat} {x y v : AV} (h : app st sz x y = some (v, st1)) : st.length ≤ st1.length := by
  unfold app at h
  split at h
  · split at h
    · split at h
      · cases h; simp
      · cases h
    · split at h
      · split at h
        · cases h; simp
        · cases h
      · cases h
    · cases h
  · cases h

theorem frzAll_len : ∀ {bl : List Nat} {st : St}, (frzAll st bl).length = st.length
  | [], st => rfl
  | h :: t, st => by
    simp only [frzAll]
    split
    · rw [frzAll_len]; simp
    · rw [frzAll_len]

theorem mcall_len {C : Orc} {q : Bool} {ms : List Bool} {f : Nat} {vs : List AV} {st st1 : St} {v : AV} (h : mcall C q ms f vs st = some (v, st1)) : st.length ≤ st1.length := by
  unfold mcall at h
  split at h
  · cases h
  · split at h
    · split at h
      · cases h
      · split at h
        · cases h; exact Nat.le_refl _
        · split at h
          · cases h
          · cases h; rw [frzAll_len]; exact Nat.le_refl _
      · split at h
        · cases h
        · cases h; simp [frzAll_len]
    · split at h
      · cases h
      · split at h
        · cases h
        · split at h
          · cases h
          · split at h
            · cases h; simp [setAll_length, frzAll_len]
            · cases h

theorem aop_len {o : AOp} {ρ : Nat → AV} {st st1 : St} {v : AV} (h : aop C L o ρ st = some (v, st1)) : st.length ≤ st1.length := by
  by_cases h1 : cls o ≤ 1
  · have := (reader (C := C) (L := L) h1 ρ (st := st) (st' := st) (.inr fun _ _ => rfl)).1 v st1 h
    rw [this.1]; exact Nat.le_refl _
  · cases o with
    | alloc z => simp [aop] at h; rw [← h.2]; simp
    | box x =>
      simp only [aop] at h
      split at h
      · simp at h; rw [← h.2]; simp
      · cases h
    | bslice sz z n ps =>
      simp only [aop] at h
      split at h
      · rename_i hf; simp at h; rw [← h.2]; simp [fillE_len hf]
      · cases h
    | store n a x =>
      simp only [aop] at h
      split at h
      · rename_i hw; simp at h; rw [← h.2, wrt_len hw]; exact Nat.le_refl _
      · cases h
    | append sz x y => simp only [aop] at h; exact app_len h
    | mksl sz z n c =>
      simp only [aop] at h
      split at h
      · split at h
        · simp at h; rw [← h.2]; simp
        · cases h
      · cases h
    | b2s x =>
      simp only [aop] at h
      split at h
      · simp at h; rw [h.2]; exact Nat.le_refl _
      · cases h
    | call q ms f xs =>
      simp only [aop] at h
      split at h
      · exact mcall_len h
      · cases h
    | _ => simp [cls] at h1

theorem gstep_len {x : AI} {ρ : Nat → AV} {st : St} {v : AV} {st1 : St} (h : gstep C L x ρ st = some (v, st1)) : st.length ≤ st1.length := by
  unfold gstep at h
  cases hg : x.guard with
  | none => rw [hg] at h; exact aop_len h
  | some gb =>
    obtain ⟨g, b⟩ := gb
    simp only [hg] at h
    split at h
    · split at h
      · exact aop_len h
      · cases h; exact Nat.le_refl _
    · cases h; exact Nat.le_refl _
    · cases h

/-- x and then y, or y and then x. -/
theorem swap {x y : AI} (hi : indep x y = true) {ρ ρ1 ρ2 : Nat → AV} {st st1 st2 : St} (hL : L ≤ st.length) (h1 : astep C L x ρ st = some (ρ1, st1)) (h2 : astep C L y ρ1 st1 = some (ρ2, st2)) :
    ∃ ρ3 st3, astep C L y ρ st = some (ρ3, st3) ∧ astep C L x ρ3 st3 = some (ρ2, st2) ∧ L ≤ st3.length := by
  simp only [indep, Bool.and_eq_true, Bool.not_eq_true', Bool.or_eq_true, beq_iff_eq, decide_eq_true_eq] at hi
  obtain ⟨⟨⟨d1, d2⟩, d3⟩, hc⟩ := hi
  have hxy : ∀ k, x.dst = some k → ∀ t ∈ rdsI y, k ≠ t := fun k hk t ht e => by
    subst e; simp [hk, dstIn, ht] at d1
  have hyx : ∀ k, y.dst = some k → ∀ t ∈ rdsI x, k ≠ t := fun k hk t ht e => by
    subst e; simp [hk, dstIn, ht] at d2
  have hdd : ∀ k, x.dst = some k → y.dst ≠ some k := fun k hk e => by simp [hk, e] at d3
  rw [astep_eq] at h1 h2
  cases g1 : gstep C L x ρ st with
  | none => simp [g1] at h1
  | some r1 =>
    obtain ⟨v, s1⟩ := r1
    simp [g1] at h1
    obtain ⟨rfl, rfl⟩ := h1
    have c2 : gstep C L y (put ρ x.dst v) s1 = gstep C L y ρ s1 := gstep_congr fun t ht => put_get fun k hk => hxy k hk t ht
    rw [c2] at h2
    cases g2 : gstep C L y ρ s1 with
    | none => simp [g2] at h2
    | some r2 =>
      obtain ⟨u, s2⟩ := r2
      simp [g2] at h2
      obtain ⟨rfl, rfl⟩ := h2
      -- y first
      have key : ∃ s3, gstep C L y ρ st = some (u, s3) ∧ gstep C L x ρ s3 = some (v, s2) ∧ L ≤ s3.length := by
        by_cases cx : cls x.op ≤ 1 ∧ (cls x.op = 0 ∨ cls y.op ≤ 2)
        · obtain ⟨cx1, cx2⟩ := cx
          have e1 : s1 = st := (gstep_reader (C := C) (L := L) cx1 (st' := st) (.inr fun _ _ => rfl) g1).1
          subst e1
          have hb : cls x.op = 0 ∨ Below' L s1 s2 := cx2.imp id fun cy => fun h hh => gstep_quiet (C := C) (L := L) cy g2 h (by omega)
          have hx := (gstep_reader (C := C) (L := L) cx1 hb g1).2
          refine ⟨s2, g2, hx, ?_⟩
          exact Nat.le_trans hL (gstep_len g2)
        · have cy1 : cls y.op ≤ 1 ∧ (cls y.op = 0 ∨ cls x.op ≤ 2) := by
            rcases hc with ((hc | hc) | hc) | hc <;> omega
          obtain ⟨cy1, cy2⟩ := cy1
          have e1 : s2 = s1 := (gstep_reader (C := C) (L := L) cy1 (st' := s1) (.inr fun _ _ => rfl) g2).1
          subst e1
          have hb : cls y.op = 0 ∨ Below' L s2 st := cy2.imp id fun cx => fun h hh => (gstep_quiet (C := C) (L := L) cx g1 h (by omega)).symm
          have hy := (gstep_reader (C := C) (L := L) cy1 hb g2).2
          exact ⟨st, hy, g1, hL⟩
      obtain ⟨s3, k1, k2, k3⟩ := key
      refine ⟨put ρ y.dst u, s3, by rw [astep_eq, k1], ?_, k3⟩
      have c3 : gstep C L x (put ρ y.dst u) s3 = gstep C L x ρ s3 := gstep_congr fun t ht => put_get fun k hk => hyx k hk t ht
      rw [astep_eq, c3, k2, put_swap hdd]

theorem astep_len {x : AI} {ρ ρ1 : Nat → AV} {st st1 : St} (h : astep C L x ρ st = some (ρ1, st1)) : st.length ≤ st1.length := by
  rw [astep_eq] at h
  cases g : gstep C L x ρ st with
  | none => simp [g] at h
  | some r =>
    obtain ⟨v, s⟩ := r
    simp [g] at h
    rw [← h.2]; exact gstep_len g

/-- Operations by their numbers. -/
def aidx (C : Orc) (L : Nat) (xs : List AI) : List Nat → (Nat → AV) → St → Option ((Nat → AV) × St)
  | [], ρ, st => some (ρ, st)
  | i :: is, ρ, st => match xs[i]? with
    | some x => match astep C L x ρ st with
      | some (ρ1, st1) => aidx C L xs is ρ1 st1
      | none => none
    | none => none

theorem aidx_range {xs : List AI} : ∀ {ys : List AI} {k : Nat} {ρ : Nat → AV} {st : St}, (∀ i : Nat, ys[i]? = xs[k + i]?) → aops C (some L) ys ρ st = aidx C L xs (List.range' k ys.length) ρ st
  | [], k, ρ, st, _ => by simp [aops, aidx]
  | y :: ys, k, ρ, st, h => by
    have h0 := h 0
    simp only [List.getElem?_cons_zero, Nat.add_zero] at h0
    simp only [aops, List.length_cons, List.range'_succ, aidx, ← h0, Option.getD_some]
    have ih : ∀ {ρ : Nat → AV} {st : St}, aops C (some L) ys ρ st = aidx C L xs (List.range' (k + 1) ys.length) ρ st := aidx_range (fun i => by
      have := h (i + 1)
      simp only [List.getElem?_cons_succ] at this
      rw [this]; congr 1; omega)
    simp only [ih]; rfl

/-- An operation that lies apart from all ahead of it may come first. -/
theorem bubble {xs : List AI} {i : Nat} {x : AI} (hx : xs[i]? = some x) : ∀ {r1 r2 : List Nat} {ρ ρ' : Nat → AV} {st st' : St}, (∀ j ∈ r1, ∀ y, xs[j]? = some y → indep y x = true) → L ≤ st.length →
    aidx C L xs (r1 ++ i :: r2) ρ st = some (ρ', st') → ∃ ρ1 st1, astep C L x ρ st = some (ρ1, st1) ∧ aidx C L xs (r1 ++ r2) ρ1 st1 = some (ρ', st') ∧ L ≤ st1.length
  | [], r2, ρ, ρ', st, st', _, hL, h => by
    simp only [List.nil_append, aidx, hx] at h
    cases hs : astep C L x ρ st with
    | none => simp [hs] at h
    | some r =>
      obtain ⟨ρ1, st1⟩ := r
      simp only [hs] at h
      exact ⟨ρ1, st1, rfl, h, Nat.le_trans hL (astep_len hs)⟩
  | j :: r1, r2, ρ, ρ', st, st', hi, hL, h => by
    simp only [List.cons_append, aidx] at h
    cases hy : xs[j]? with
    | none => simp [hy] at h
    | some y =>
      simp only [hy] at h
      cases hs : astep C L y ρ st with
      | none => simp [hs] at h
      | some r =>
        obtain ⟨ρ1, st1⟩ := r
        simp only [hs] at h
        obtain ⟨ρ2, st2, h1, h2, h3⟩ := bubble hx (fun k hk => hi k (by simp [hk])) (Nat.le_trans hL (astep_len hs)) h
        obtain ⟨ρ3, st3, g1, g2, g3⟩ := swap (hi j (by simp) y hy) hL hs h1
        refine ⟨ρ3, st3, g1, ?_, g3⟩
        simp only [List.cons_append, aidx, hy, g2]
        exact h2

end

/-! ### The check of a region that draws -/
def edgesOf (o : Oper) : List Nat := (o.after.toList.filter fun e => Region.binds .any e).map (·.on)

/-- Masks of what must have come ahead, and that they are sound. -/
def masksOk (ops : List Oper) (B : List Nat) : Bool :=
  (List.range ops.length).all fun i => match ops[i]? with
    | some o => (edgesOf o).all (fun e => decide (e < i)) && (List.range i).all fun j => !(B.getD i 0).testBit j || (edgesOf o).any fun e => e == j || (decide (j < e) && (B.getD e 0).testBit j)
    | none => false

def apartOk (xs : List AI) (B : List Nat) : Bool :=
  (List.range xs.length).all fun i => (List.range i).all fun j => (B.getD i 0).testBit j || (match xs[j]?, xs[i]? with | some y, some x => indep y x | _, _ => false)

def drawOk (ops : List Oper) (xs : List AI) : Bool := let B := (Region.before ops.toArray).toList; masksOk ops B && apartOk xs B

theorem masks_listed {ops : List Oper} {B : List Nat} (h : masksOk ops B = true) {lst : Nat → Bool} (hcl : ∀ k o, ops[k]? = some o → lst k = true → ∀ e ∈ edgesOf o, lst e = true) :
    ∀ i o, ops[i]? = some o → (∀ e ∈ edgesOf o, lst e = true) → ∀ j, j < i → (B.getD i 0).testBit j = true → lst j = true := by
  intro i
  induction i using Nat.strongRecOn with
  | _ i ih =>
    intro o ho he j hj hb
    unfold masksOk at h
    rw [List.all_eq_true] at h
    have hi := h i (by simpa using lt_of_getElem? ho)
    simp only [ho, Bool.and_eq_true, List.all_eq_true] at hi
    have hj' := hi.2 j (by simpa using hj)
    rw [hb] at hj'
    simp only [Bool.not_true, Bool.false_or, List.any_eq_true, Bool.or_eq_true, beq_iff_eq, Bool.and_eq_true, decide_eq_true_eq] at hj'
    obtain ⟨e, he1, he2⟩ := hj'
    have hlt : e < i := by simpa using hi.1 e he1
    rcases he2 with rfl | he2
    · exact he e he1
    · have hol : e < ops.length := Nat.lt_trans hlt (lt_of_getElem? ho)
      have hoe : ops[e]? = some (ops[e]'hol) := List.getElem?_eq_getElem hol
      exact ih e hlt _ hoe (hcl e _ hoe (he e he1)) j he2.1 he2.2

section
variable {P : Program} {Φ : Nat → FuncId} {N : Nat} {C : Orc} {ops : Array Oper} {Q : Exit → Act → World → Prop}

/-- What is left of a region, whatever order is picked. -/
theorem any_wp (hC : COk P Φ C) {xs : List AI} {B : List Nat} (hm : mAIs P Φ N ops xs ops.toList = true) (hB : masksOk ops.toList B = true) (hA : apartOk xs B = true) {L : Nat} :
    ∀ (rem : List Nat) (listed : Array Bool) {ρ ρ' : Nat → AV} {st st' : St} {a : Act} {w : World} {Z : Nat → Nat} {σ : Nat → Option (Nat × Nat)},
      rem.Pairwise (· < ·) → (∀ i, i ∈ rem ↔ i < ops.size ∧ listed.getD i true = false) → listed.size = ops.size →
      (∀ k o, ops.toList[k]? = some o → listed.getD k false = true → ∀ e ∈ edgesOf o, listed.getD e false = true) →
      FRel Φ N w Z σ st ρ a → L ≤ st.length → aidx C L xs rem ρ st = some (ρ', st') →
      (∀ a' w' Z' σ', FRel Φ N w' Z' σ' st' ρ' a' → Ext st.length w Z σ st w' Z' σ' st' → st.length ≤ st'.length → Q .normal a' w') →
      wpAny P .any ops Q rem.length listed a w := by
  intro rem
  generalize hn : rem.length = n
  induction n generalizing rem with
  | zero =>
    intro listed ρ ρ' st st' a w Z σ hs hr hsz hcl hF hL hrun hQ
    have : rem = [] := List.eq_nil_of_length_eq_zero hn
    subst this
    simp [aidx] at hrun
    obtain ⟨rfl, rfl⟩ := hrun
    refine ⟨?_, hQ a w Z σ hF (Ext.refl _ _ _ _ _) (Nat.le_refl _)⟩
    apply List.eq_nil_iff_forall_not_mem.2
    intro i hi
    obtain ⟨h1, o, ho, _⟩ := mem_ready.1 hi
    have := (hr i).2 ⟨(Array.getElem?_eq_some_iff.1 ho).1, h1⟩
    cases this
  | succ n ih =>
    intro listed ρ ρ' st st' a w Z σ hs hr hsz hcl hF hL hrun hQ
    obtain ⟨hlen, hget⟩ := mAIs_get hm
    -- the first of those that are left is ready
    have hready : ∀ i, i ∈ Region.ready .any ops listed ↔ i ∈ rem ∧ ∃ o, ops[i]? = some o ∧ ∀ e ∈ edgesOf o, listed.getD e false = true := by
      intro i
      rw [mem_ready, hr]
      constructor
      · rintro ⟨h1, o, ho, h2⟩
        refine ⟨⟨(Array.getElem?_eq_some_iff.1 ho).1, h1⟩, o, ho, fun e he => ?_⟩
        simp only [edgesOf, List.mem_map, List.mem_filter] at he
        obtain ⟨ed, ⟨h3, h4⟩, rfl⟩ := he
        exact h2 ed (by simpa using h3) h4
      · rintro ⟨⟨h0, h1⟩, o, ho, h2⟩
        refine ⟨h1, o, ho, fun e he hb => h2 e.on ?_⟩
        simp only [edgesOf, List.mem_map, List.mem_filter]
        exact ⟨e, ⟨by simpa using he, hb⟩, rfl⟩
    have listed_of : ∀ e, e < ops.size → e ∉ rem → listed.getD e false = true := by
      intro e he hne
      have h1 : ¬ (e < ops.size ∧ listed.getD e true = false) := fun h => hne ((hr e).2 h)
      have h2 : e < listed.size := by omega
      simp [h2] at h1 ⊢
      exact h1 he
    refine ⟨fun hnil => ?_, fun i hi => ?_⟩
    · exfalso
      cases rem with
      | nil => simp at hn
      | cons i0 rest =>
        have hi0 := (hr i0).1 (by simp)
        have ho : ops[i0]? = some ops[i0] := Array.getElem?_eq_getElem hi0.1
        have hmem : i0 ∈ Region.ready .any ops listed := by
          rw [hready]
          refine ⟨by simp, _, ho, fun e he => ?_⟩
          unfold masksOk at hB
          rw [List.all_eq_true] at hB
          have hi := hB i0 (by simpa using hi0.1)
          have ho' : ops.toList[i0]? = some ops[i0] := by simpa using ho
          simp only [ho', Bool.and_eq_true, List.all_eq_true] at hi
          have hlt : e < i0 := by simpa using hi.1 e he
          refine listed_of e (by omega) (fun hm => ?_)
          cases hm with
          | head => omega
          | tail _ hm =>
            have := (List.pairwise_cons.1 hs).1 e hm
            omega
        rw [hnil] at hmem; cases hmem
    · obtain ⟨hirem, o, ho, hedges⟩ := (hready i).1 hi
      obtain ⟨r1, r2, rfl⟩ := List.append_of_mem hirem
      have ho' : ops.toList[i]? = some o := by simpa using ho
      have hix : i < xs.length := by rw [hlen]; exact lt_of_getElem? ho'
      have hx : xs[i]? = some (xs[i]'hix) := List.getElem?_eq_getElem hix
      rw [List.pairwise_append] at hs
      obtain ⟨p1, p2, p3⟩ := hs
      have hind : ∀ j ∈ r1, ∀ y, xs[j]? = some y → indep y (xs[i]'hix) = true := by
        intro j hj y hy
        have hji : j < i := p3 j hj i (by simp)
        unfold apartOk at hA
        rw [List.all_eq_true] at hA
        have h1 := hA i (by simpa using hix)
        rw [List.all_eq_true] at h1
        have h2 := h1 j (by simpa using hji)
        simp only [hy, hx, Bool.or_eq_true] at h2
        rcases h2 with h2 | h2
        · have := masks_listed hB (lst := fun e => listed.getD e false) hcl i o ho' hedges j hji h2
          have hjr := (hr j).1 (by simp [hj])
          have h3 : j < listed.size := by omega
          simp [h3] at this hjr
          rw [this] at hjr
          simp at hjr
        · exact h2
      obtain ⟨ρ1, st1, h1, h2, h3⟩ := bubble hx hind hL hrun
      refine astep_wp hC hF ho (hget i _ _ hx ho') h1 (fun a' w' Z' σ' hF' hE' => ?_)
      have hle := astep_len h1
      refine ih (r1 ++ r2) (by simp at hn ⊢; omega) (listed.setIfInBounds i true) ?_ (fun k => ?_) (by simpa using hsz) (fun k o' hk hlk e he => ?_) hF' h3 h2 (fun a2 w2 Z2 σ2 g1 g2 g3 => hQ a2 w2 Z2 σ2 g1 (hE'.trans (g2.le hle)) (Nat.le_trans hle g3))
      · rw [List.pairwise_append]
        exact ⟨p1, (List.pairwise_cons.1 p2).2, fun x hx y hy => p3 x hx y (by simp [hy])⟩
      · have hki : k ∈ r1 ++ r2 → k ≠ i := by
          intro hk e
          subst e
          rw [List.mem_append] at hk
          rcases hk with hk | hk
          · have := p3 k hk k (by simp); omega
          · have := (List.pairwise_cons.1 p2).1 k hk; omega
        constructor
        · intro hk
          have hne := hki hk
          have := (hr k).1 (by rw [List.mem_append] at hk ⊢; rcases hk with hk | hk <;> simp [hk])
          exact ⟨this.1, by rw [getD_set_ne true (Ne.symm hne)]; exact this.2⟩
        · rintro ⟨q1, q2⟩
          have hne : k ≠ i := by
            intro e; subst e
            have : k < listed.size := by omega
            simp [this] at q2
          rw [getD_set_ne true (Ne.symm hne)] at q2
          have := (hr k).2 ⟨q1, q2⟩
          rw [List.mem_append] at this ⊢
          rcases this with h | h
          · exact .inl h
          · cases h with
            | head => exact absurd rfl hne
            | tail _ h => exact .inr h
      · by_cases hki : k = i
        · subst hki
          rw [ho'] at hk; cases hk
          exact getD_set_true (hedges e he)
        · rw [getD_set_ne false (Ne.symm hki)] at hlk
          exact getD_set_true (hcl k o' hk hlk e he)

end
end Go.Proofs.Ytghhjbbildemiaa.AM

namespace Go.Proofs.Ytghhjbbildemiaa.AM
open Go

def mAC (P : Program) (Φ : Nat → FuncId) (N : Nat) : AC → Code → Bool
  | .skip, .skip => true
  | .reg dr xs _, .region _ ops draw => mAIs P Φ N ops xs ops.toList && (dr == draw) && (!dr || (drawOk ops.toList xs && P.follows .mixedOrders))
  | .seq a b, .seq c d => mAC P Φ N a c && mAC P Φ N b d
  | .cond c a b, .cond c' a' b' => mOpd Φ c c' && mAC P Φ N a a' && mAC P Φ N b b'
  | .block id c, .block id' c' => id == id' && mAC P Φ N c c'
  | .kp _ a, c => mAC P Φ N a c
  | .loop _ c, .loop c' => mAC P Φ N c c'
  | .exit id, .exit id' => id == id'
  | .ret, .ret => true
  | .refuse, _ => true
  | _, _ => false

def mRes (P : Program) : List ARes → List ResultVar → Bool
  | [], [] => true
  | .t n :: rs, .tmp m :: qs => n == m && mRes P rs qs
  | .cell n k :: rs, .cell m t :: qs => n == m && mN P t k && mRes P rs qs
  | _, _ => false

def mFunc (P : Program) (Φ : Nat → FuncId) (g : FuncId) (F : AFunc) : Bool :=
  match P.funcs[g]? with
  | some fn => fn.name != "runtime.NumGoroutine" && decide (F.np ≤ fn.ntmps) && (match fn.body with | some c => mAC P Φ fn.ntmps F.body c | none => false) && mRes P F.res fn.results.toList
  | none => false

/-- What is left to do on either side. -/
inductive IR (P : Program) (Φ : Nat → FuncId) (N : Nat) : List AT → List Item → Prop
  | nil : IR P Φ N [] []
  | code {x : AC} {c : Code} {K : List AT} {K' : List Item} (h : mAC P Φ N x c = true) (hK : IR P Φ N K K') : IR P Φ N (.code x :: K) (.code c :: K')
  | inBlock {id : Nat} {K : List AT} {K' : List Item} (hK : IR P Φ N K K') : IR P Φ N (.inBlock id :: K) (.inBlock id :: K')
  | inLoop {kp : List (Nat × CV)} {x : AC} {c : Code} {K : List AT} {K' : List Item} (h : mAC P Φ N x c = true) (hK : IR P Φ N K K') : IR P Φ N (.inLoop kp x :: K) (.inLoop c :: K')

section
variable {P : Program} {Φ : Nat → FuncId} {N : Nat}

theorem IR.exit {id : Nat} {K K1 : List AT} {K' : List Item} (h : IR P Φ N K K') (he : aexit id K = some K1) : ∃ K1', exitTo id K' = some K1' ∧ IR P Φ N K1 K1' := by
  induction h with
  | nil => simp [aexit] at he
  | code h hK ih =>
    simp only [aexit] at he
    obtain ⟨K1', h1, h2⟩ := ih he
    exact ⟨K1', by simpa [exitTo] using h1, h2⟩
  | inBlock hK ih =>
    rename_i id' K K'
    simp only [aexit] at he
    by_cases e : id' = id
    · rw [if_pos e] at he; cases he
      exact ⟨K', by simp [exitTo, e], hK⟩
    · rw [if_neg e] at he
      obtain ⟨K1', h1, h2⟩ := ih he
      exact ⟨K1', by simp [exitTo, e]; exact h1, h2⟩
  | inLoop h hK ih =>
    simp only [aexit] at he
    obtain ⟨K1', h1, h2⟩ := ih he
    exact ⟨K1', by simpa [exitTo] using h1, h2⟩

variable {w w' : World} {Z Z' : Nat → Nat} {σ σ' : Nat → Option (Nat × Nat)} {st st' st1 : St} {a : Act} {C : Orc}

theorem keep_get (ρ : Nat → AV) : ∀ (kp : List Nat) (t : Nat), eget (keep ρ kp) t = ρ t ∨ eget (keep ρ kp) t = .undef
  | [], t => .inr rfl
  | k :: kp, t => by
    simp only [keep, eget]
    by_cases e : k = t
    · subst e; simp
    · simp only [e, if_false]; exact keep_get ρ kp t

theorem ERel.keep {ρ : Nat → AV} (h : ERel Φ w Z σ st ρ a) (kp : List Nat) : ERel Φ w Z σ st (eget (AM.keep ρ kp)) a := by
  intro t
  rcases keep_get ρ kp t with e | e
  · rw [e]; exact h t
  · rw [e]; exact .undef _

theorem headV_sound {e : Env} (hE : ∀ t, VRel Φ w Z σ st (eget e t) (a.tmps.getD t undef)) :
    ∀ {kp : List (Nat × CV)} {st0 st1 : St} {vs : List AV} {Z0 : Nat → Nat} {σ0 : Nat → Option (Nat × Nat)}, Sim Φ w Z0 σ0 st0 → Ext st.length w Z σ st w Z0 σ0 st0 → st.length ≤ st0.length → headV e kp st0 = some (vs, st1) →
    ∃ Z' σ', Sim Φ w Z' σ' st1 ∧ VRels Φ w Z' σ' st1 vs (kp.map fun p => a.tmps.getD p.1 undef) ∧ Ext st0.length w Z0 σ0 st0 w Z' σ' st1 ∧ st0.length ≤ st1.length
  | [], st0, st1, vs, Z0, σ0, S, E, hl, h => by
    simp [headV] at h; obtain ⟨rfl, rfl⟩ := h
    exact ⟨Z0, σ0, S, .nil, Ext.refl _ _ _ _ _, Nat.le_refl _⟩
  | (t, cv) :: kp, st0, st1, vs, Z0, σ0, S, E, hl, h => by
    simp only [headV] at h
    cases h1 : conv1 cv (eget e t) st0 with
    | none => simp only [h1] at h; cases h
    | some r =>
      obtain ⟨v, st2⟩ := r
      simp only [h1] at h
      cases h2 : headV e kp st2 with
      | none => simp only [h2] at h; cases h
      | some r2 =>
        obtain ⟨vs2, st3⟩ := r2
        simp only [h2] at h
        cases h
        obtain ⟨Z1, σ1, S1, hv1, E1, l1⟩ := conv1_sound S h1 ((hE t).mono E)
        obtain ⟨Z2, σ2, S2, hv2, E2, l2⟩ := headV_sound hE S1 (E.trans (E1.le hl)) (Nat.le_trans hl l1) h2
        exact ⟨Z2, σ2, S2, .cons (hv1.mono E2) hv2, E1.trans (E2.le l1), Nat.le_trans l1 l2⟩

theorem zipE_rel : ∀ {kp : List (Nat × CV)} {vs : List AV}, VRels Φ w Z σ st vs (kp.map fun p => a.tmps.getD p.1 undef) → ∀ t, VRel Φ w Z σ st (eget (zipE kp vs) t) (a.tmps.getD t undef)
  | [], vs, h, t => by
    have : zipE [] vs = [] := by cases vs <;> rfl
    rw [this]; exact .undef _
  | (k, cv) :: kp, vs, h, t => by
    cases vs with
    | nil => exact .undef _
    | cons v vs =>
      obtain ⟨x, xs, e1, h1, h2⟩ := VRels.cons_inv h
      simp only [List.map_cons, List.cons.injEq] at e1
      obtain ⟨rfl, rfl⟩ := e1
      simp only [zipE, eget]
      by_cases e : k = t
      · subst e; simp only [if_true]; exact h1
      · simp only [e, if_false]; exact zipE_rel h2 t

theorem head_sound {m : Nat} {kp : List (Nat × CV)} {e e1 : Env} (hm : m ≤ st.length) (hF : FRel Φ N w Z σ st (eget e) a) (h : head m kp e st = some (e1, st1)) :
    ∃ Z' σ', FRel Φ N w Z' σ' st1 (eget e1) a ∧ Ext m w Z σ st w Z' σ' st1 ∧ m ≤ st1.length := by
  unfold head at h
  cases h1 : headV e kp st with
  | none => simp only [h1] at h; cases h
  | some r =>
    obtain ⟨vs, st2⟩ := r
    simp only [h1] at h
    cases h2 : gc m vs st2 with
    | none => simp only [h2] at h; cases h
    | some r2 =>
      obtain ⟨vs', st3⟩ := r2
      simp only [h2] at h
      cases h
      obtain ⟨Z1, σ1, S1, hv1, E1, l1⟩ := headV_sound (e := e) hF.env hF.sim (Ext.refl _ _ _ _ _) (Nat.le_refl _) h1
      obtain ⟨σ2, S2, hv2, E2, l2⟩ := gc_sound S1 h2 hv1
      exact ⟨Z1, σ2, ⟨S2, zipE_rel hv2, hF.size, hF.defers⟩, (E1.le hm).trans E2, l2⟩

/-- A region, whichever way its order is. -/
theorem reg_sound (hC : COk P Φ C) {dr : Bool} {xs : List AI} {kp : List Nat} {id : Nat} {ops : Array Oper} {draw : Bool} (hm : mAC P Φ N (.reg dr xs kp) (.region id ops draw) = true) {e : Env} {ρ1 : Nat → AV}
    (hF : FRel Φ N w Z σ st (eget e) a) (h : aops C (if dr then some st.length else none) xs (eget e) st = some (ρ1, st1)) :
    (Code.region id ops draw).wp P (fun ex a' w' => ex = .normal ∧ ∃ Z' σ', FRel Φ N w' Z' σ' st1 ρ1 a' ∧ Ext st.length w Z σ st w' Z' σ' st1 ∧ st.length ≤ st1.length) a w := by
  simp only [mAC, Bool.and_eq_true, beq_iff_eq, Bool.or_eq_true, Bool.not_eq_true'] at hm
  obtain ⟨⟨hxs, rfl⟩, hdr⟩ := hm
  obtain ⟨hlen, hget⟩ := mAIs_get hxs
  cases dr with
  | false =>
    simp only [Bool.false_eq_true, if_false] at h
    refine wp_region ?_
    have := aops_wp (ops := ops) (Q := fun ex a' w' => ex = .normal ∧ ∃ Z' σ', FRel Φ N w' Z' σ' st1 ρ1 a' ∧ Ext st.length w Z σ st w' Z' σ' st1 ∧ st.length ≤ st1.length) hC (fin := fun _ _ _ _ => True) (k := 0)
      (fun i x hx => by
        have hi : i < ops.toList.length := by rw [← hlen]; exact lt_of_getElem? hx
        have ho : ops.toList[i]? = some (ops.toList[i]'hi) := List.getElem?_eq_getElem hi
        exact ⟨_, by rw [Nat.zero_add, ← Array.getElem?_toList]; exact ho, hget i x _ hx ho⟩) hF h (fun a' w' Z' σ' g1 g2 g3 => ⟨rfl, Z', σ', g1, g2, g3⟩)
    rw [List.range_eq_range', ← Array.length_toList, ← hlen]
    exact this
  | true =>
    simp only [if_true] at h
    have hdo : drawOk ops.toList xs = true ∧ P.follows .mixedOrders = true := by
      rcases hdr with q | q
      · cases q
      · exact q
    obtain ⟨hdo, hmix⟩ := hdo
    unfold drawOk at hdo
    simp only [Bool.and_eq_true] at hdo
    refine wp_region_any hmix ?_
    have Ed : Ext st.length w Z σ st { w with drawn := w.drawn + 1 } Z σ st := ext_heap (w := w) (w' := { w with drawn := w.drawn + 1 }) rfl rfl rfl _
    have hF' : FRel Φ N { w with drawn := w.drawn + 1 } Z σ st (eget e) a := ⟨Sim.heap (w := w) (w' := { w with drawn := w.drawn + 1 }) rfl rfl rfl hF.sim, fun t => (hF.env t).mono Ed, hF.size, hF.defers⟩
    rw [aidx_range (xs := xs) (k := 0) (fun i => by rw [Nat.zero_add])] at h
    rw [← List.range_eq_range'] at h
    have hsz : xs.length = ops.size := by rw [hlen]; simp
    have := any_wp (Q := fun ex a' w' => ex = .normal ∧ ∃ Z' σ', FRel Φ N w' Z' σ' st1 ρ1 a' ∧ Ext st.length w Z σ st w' Z' σ' st1 ∧ st.length ≤ st1.length) hC hxs hdo.1 hdo.2 (List.range xs.length) (Array.replicate ops.size false)
      (by exact List.pairwise_lt_range) (fun i => by
        rw [List.mem_range, hsz]
        constructor
        · intro hi; exact ⟨hi, by simp [hi]⟩
        · intro hi; exact hi.1) (by simp) (fun k o hk hlk => by simp [Array.getElem?_replicate] at hlk; split at hlk <;> simp at hlk) hF' (Nat.le_refl _) h
      (fun a' w' Z' σ' g1 g2 g3 => ⟨rfl, Z', σ', g1, Ed.trans g2, g3⟩)
    rw [List.length_range, hsz] at this
    exact this

/-- Runs. -/
theorem run_steps (hC : COk P Φ C) {m : Nat} : ∀ (n : Nat) {K : List AT} {K' : List Item} {e e' : Env} {st st' : St} {w : World} {Z : Nat → Nat} {σ : Nat → Option (Nat × Nat)} {a : Act},
    runK C m n K e st = some (e', st') → IR P Φ N K K' → FRel Φ N w Z σ st (eget e) a → m ≤ st.length → ∀ (b : Frame) (cs : List Frame),
    ∃ a' w' Z' σ' todo, Steps P (lone (b.at a K') cs w) (lone { b.at a' todo with mode := .returning } cs w') ∧ FRel Φ N w' Z' σ' st' (eget e') a' ∧ Ext m w Z σ st w' Z' σ' st' ∧ m ≤ st'.length
  | 0, K, K', e, e', st, st', w, Z, σ, a, h, _, _, _ => by simp [runK] at h
  | n + 1, K, K', e, e', st, st', w, Z, σ, a, h, hI, hF, hm => by
    intro b cs
    simp only [runK] at h
    have go : ∀ {K1 : List AT} {K1' : List Item} {e1 : Env} {st1 : St} {a1 : Act} {w1 : World} {Z1 : Nat → Nat} {σ1 : Nat → Option (Nat × Nat)}, runK C m n K1 e1 st1 = some (e', st') → IR P Φ N K1 K1' →
        FRel Φ N w1 Z1 σ1 st1 (eget e1) a1 → m ≤ st1.length → Ext m w Z σ st w1 Z1 σ1 st1 → Steps P (lone (b.at a K') cs w) (lone (b.at a1 K1') cs w1) →
        ∃ a' w' Z' σ' todo, Steps P (lone (b.at a K') cs w) (lone { b.at a' todo with mode := .returning } cs w') ∧ FRel Φ N w' Z' σ' st' (eget e') a' ∧ Ext m w Z σ st w' Z' σ' st' ∧ m ≤ st'.length := by
      intro K1 K1' e1 st1 a1 w1 Z1 σ1 hr hI1 hF1 hm1 hE1 hst
      obtain ⟨a', w', Z', σ', todo, g1, g2, g3, g4⟩ := run_steps hC n hr hI1 hF1 hm1 b cs
      exact ⟨a', w', Z', σ', todo, hst.trans g1, g2, hE1.trans g3, g4⟩
    cases hI with
    | nil =>
      simp only [nx] at h
      cases h
      exact ⟨a, w, Z, σ, [], .one step_end, hF, Ext.refl _ _ _ _ _, hm⟩
    | inBlock hK =>
      simp only [nx] at h
      exact go h hK hF hm (Ext.refl _ _ _ _ _) (.one step_inBlock)
    | inLoop hx hK =>
      rename_i kp x c K K'
      simp only [nx] at h
      cases hh : head m kp e st with
      | none => simp [hh] at h
      | some r =>
        obtain ⟨e1, st1⟩ := r
        simp only [hh] at h
        obtain ⟨Z1, σ1, F1, E1, l1⟩ := head_sound hm hF hh
        exact go h (.code hx (.inLoop hx hK)) F1 l1 E1 (.one step_inLoop)
    | code hx hK =>
      rename_i x c K K'
      cases x with
      | skip =>
        cases c <;> simp [mAC] at hx
        simp only [nx] at h
        exact go h hK hF hm (Ext.refl _ _ _ _ _) (.one step_skip)
      | reg dr xs kp =>
        cases c <;> try (simp [mAC] at hx; done)
        rename_i id ops draw
        simp only [nx] at h
        cases ha : aops C (if dr then some st.length else none) xs (eget e) st with
        | none => simp [ha] at h
        | some r =>
          obtain ⟨ρ1, st1⟩ := r
          simp only [ha] at h
          obtain ⟨ex, a1, w1, ⟨rfl, Z1, σ1, F1, E1, l1⟩, harr⟩ := reg_sound hC hx hF ha b K' cs
          exact go h hK ⟨F1.sim, F1.env.keep kp, F1.size, F1.defers⟩ (Nat.le_trans hm l1) (E1.le hm) harr
      | seq x y =>
        cases c <;> simp [mAC] at hx
        simp only [nx] at h
        exact go h (.code hx.1 (.code hx.2 hK)) hF hm (Ext.refl _ _ _ _ _) (.one step_seq)
      | cond c' x y =>
        cases c <;> simp [mAC] at hx
        obtain ⟨⟨hc, h1⟩, h2⟩ := hx
        simp only [nx] at h
        have hv := opd hF.env hc
        cases hcv : c'.ev (eget e) with
        | d dv =>
          rw [hcv] at hv
          cases dv with
          | bool t =>
            simp only [hcv] at h
            have hb := hv.bool_inv
            cases t with
            | true =>
              simp only [if_true] at h
              exact go h (.code h1 hK) hF hm (Ext.refl _ _ _ _ _) (.one (step_cond hb))
            | false =>
              simp only [Bool.false_eq_true, if_false] at h
              exact go h (.code h2 hK) hF hm (Ext.refl _ _ _ _ _) (.one (step_cond hb))
          | _ => simp [hcv] at h
        | _ => simp [hcv] at h
      | block id x =>
        cases c <;> simp [mAC] at hx
        obtain ⟨rfl, hx⟩ := hx
        simp only [nx] at h
        exact go h (.code hx (.inBlock hK)) hF hm (Ext.refl _ _ _ _ _) (.one step_block)
      | loop kp x =>
        cases c <;> simp [mAC] at hx
        simp only [nx] at h
        cases hh : head m kp e st with
        | none => simp [hh] at h
        | some r =>
          obtain ⟨e1, st1⟩ := r
          simp only [hh] at h
          obtain ⟨Z1, σ1, F1, E1, l1⟩ := head_sound hm hF hh
          exact go h (.code hx (.inLoop hx hK)) F1 l1 E1 (.one step_loop)
      | kp kp x =>
        simp only [mAC] at hx
        simp only [nx] at h
        cases hh : head m kp e st with
        | none => simp [hh] at h
        | some r =>
          obtain ⟨e1, st1⟩ := r
          simp only [hh] at h
          obtain ⟨Z1, σ1, F1, E1, l1⟩ := head_sound hm hF hh
          exact go h (.code hx hK) F1 l1 E1 (.refl _ _)
      | exit id =>
        cases c <;> simp [mAC] at hx
        subst hx
        simp only [nx] at h
        cases he : aexit id K with
        | none => simp [he] at h
        | some K1 =>
          simp only [he] at h
          obtain ⟨K1', h1, h2⟩ := hK.exit he
          exact go h h2 hF hm (Ext.refl _ _ _ _ _) (.one (step_exit h1))
      | ret =>
        cases c <;> simp [mAC] at hx
        simp only [nx] at h
        cases h
        exact ⟨a, w, Z, σ, _, .one step_ret, hF, Ext.refl _ _ _ _ _, hm⟩
      | refuse => simp [nx] at h

def resOne (tmps : Array Value) : ResultVar → Sem Value
  | .tmp t => pure (tmps.getD t undef)
  | .cell a t => do loadVar t (← asAddr (tmps.getD a undef))

theorem results_run {e : Env} (hF : FRel Φ N w Z σ st (eget e) a) : ∀ {rs : List ARes} {qs : List ResultVar} {vs : List AV}, mRes P rs qs = true → resV e st rs = some vs →
    ∃ xs, (qs.mapM (resOne a.tmps)).run P w = .ok xs w ∧ VRels Φ w Z σ st vs xs
  | [], [], vs, _, h => by
    simp [resV] at h; subst h
    exact ⟨[], rfl, .nil⟩
  | .t n :: rs, .tmp t :: qs, vs, hm, h => by
    simp only [mRes, Bool.and_eq_true, beq_iff_eq] at hm
    obtain ⟨rfl, hm⟩ := hm
    simp only [resV] at h
    cases h1 : resV e st rs with
    | none => simp [h1] at h
    | some vs' =>
      simp [h1] at h
      subst h
      obtain ⟨xs, g1, g2⟩ := results_run hF hm h1
      refine ⟨a.tmps.getD n undef :: xs, ?_, .cons (hF.env n) g2⟩
      simp only [List.mapM_cons, resOne, Sem.run_bind, Sem.run_pure, Result.andThen_ok]
      rw [g1]; rfl
  | .cell n k :: rs, .cell p t :: qs, vs, hm, h => by
    simp only [mRes, Bool.and_eq_true, beq_iff_eq] at hm
    obtain ⟨⟨rfl, hn⟩, hm⟩ := hm
    simp only [resV] at h
    cases hrd : rd st.length st k (eget e n) with
    | none => simp [hrd] at h
    | some v =>
      simp only [hrd] at h
      cases h1 : resV e st rs with
      | none => simp [h1] at h
      | some vs' =>
        simp [h1] at h
        subst h
        obtain ⟨xs, g1, g2⟩ := results_run hF hm h1
        obtain ⟨A, u, k1, k2, k3⟩ := loadVar_run (P := P) hF.sim hn hrd (hF.env n)
        refine ⟨u :: xs, ?_, .cons k3 g2⟩
        simp only [List.mapM_cons, resOne, Sem.run_bind, k1, asAddr, Sem.run_pure, Result.andThen_ok, k2]
        rw [g1]; rfl
  | [], _ :: _, _, hm, _ => by simp [mRes] at hm
  | .t _ :: _, [], _, hm, _ => by simp [mRes] at hm
  | .cell _ _ :: _, [], _, hm, _ => by simp [mRes] at hm
  | .t _ :: _, .cell _ _ :: _, _, hm, _ => by simp [mRes] at hm
  | .cell _ _ :: _, .tmp _ :: _, _, hm, _ => by simp [mRes] at hm

theorem args_get : ∀ (vs : List AV) (n t : Nat), eget (args n vs) t = if n ≤ t then (vs[t - n]?).getD .undef else .undef
  | [], n, t => by simp [args, eget]
  | v :: vs, n, t => by
    simp only [args, eget]
    by_cases e : n = t
    · subst e; simp
    · simp only [e, if_false]
      rw [args_get vs (n + 1) t]
      by_cases h : n ≤ t
      · rw [if_pos (by omega), if_pos h, show t - n = (t - (n + 1)) + 1 by omega]; simp
      · rw [if_neg (by omega), if_neg h]

/-- Every function of the table is the program's function. -/
def TOk (P : Program) (Φ : Nat → FuncId) (T : Nat → Option AFunc) : Prop := ∀ f F, T f = some F → mFunc P Φ (Φ f) F = true

theorem callFunc_enter {g : FuncId} {fn : Func} (hf : P.funcs[g]? = some fn) (hn : (fn.name != "runtime.NumGoroutine") = true) (hb : fn.body.isSome = true) (xs : Array Value) (w : World) : (callFunc g xs).run P w = .ok (.enter g xs) w := by
  have h1 : (fn.name == "runtime.NumGoroutine") = false := by simpa [bne] using hn
  have h2 : fn.body.isNone = false := by cases h : fn.body <;> simp_all
  simp only [callFunc, Sem.run_bind, run_program, Result.andThen_ok, hf, h1, h2, Bool.false_eq_true, if_false, Sem.run_pure]

theorem callK_ok {T : Nat → Option AFunc} {X : Orc} (hT : TOk P Φ T) (hX : COk P Φ X) : ∀ n, COk P Φ (callK T X n)
  | 0 => hX
  | n + 1 => by
    have ih := callK_ok hT hX n
    intro f vs st v st' h w Z σ xs S hv
    simp only [callK] at h
    cases hx : X f vs st with
    | some r =>
      simp only [hx] at h
      cases h
      exact hX f vs st v st' hx w Z σ xs S hv
    | none =>
      simp only [hx] at h
      cases hF : T f with
      | none => simp [hF] at h
      | some F =>
        simp only [hF] at h
        split at h
        · rename_i hnp
          cases hr : runK (callK T X n) st.length n [.code F.body] (args 0 vs) st with
          | none => simp [hr] at h
          | some r =>
            obtain ⟨e, st1⟩ := r
            simp only [hr] at h
            have hmf := hT f F hF
            unfold mFunc at hmf
            cases hfn : P.funcs[Φ f]? with
            | none => simp [hfn] at hmf
            | some fn =>
              simp only [hfn, Bool.and_eq_true] at hmf
              obtain ⟨⟨⟨h1, h2⟩, h3⟩, h4⟩ := hmf
              cases hb : fn.body with
              | none => simp [hb] at h3
              | some c =>
                simp only [hb] at h3
                have hnt : F.np ≤ fn.ntmps := of_decide_eq_true h2
                refine .inl ⟨callFunc_enter hfn h1 (by simp [hb]) _ _, fun cs => ?_⟩
                have hxl : xs.length = vs.length := hv.1
                let a0 : Act := { tmps := xs.toArray ++ Array.replicate (fn.ntmps - xs.toArray.size) undef, defers := [] }
                have hF0 : FRel Φ fn.ntmps w Z σ st (eget (args 0 vs)) a0 := by
                  refine ⟨S, fun t => ?_, by simp [a0]; omega, rfl⟩
                  rw [args_get]
                  simp only [Nat.zero_le, if_true, Nat.sub_zero]
                  by_cases ht : t < vs.length
                  · have e1 : vs[t]? = some (vs[t]'ht) := List.getElem?_eq_getElem ht
                    have e2 : xs[t]? = some (xs[t]'(by omega)) := List.getElem?_eq_getElem (by omega)
                    rw [e1]
                    have e3 : a0.tmps.getD t undef = xs[t]'(by omega) := by
                      simp only [a0, Array.getD_eq_getD_getElem?]
                      rw [Array.getElem?_append_left (by simpa using (by omega : t < xs.length))]
                      simp [e2]
                    rw [e3]
                    exact hv.2 t _ _ e1 e2
                  · rw [List.getElem?_eq_none (by omega)]; exact .undef _
                let b : Frame := { (default : Frame) with fn := Φ f, kind := .normal }
                have henter : Frame.enter P (Φ f) xs.toArray .normal = b.at a0 [.code c] := by
                  simp [Frame.enter, Frame.at, hfn, hb, b, a0]
                obtain ⟨a', w', Z', σ', todo, g1, g2, g3, g4⟩ := run_steps ih n hr (.code h3 .nil) hF0 (Nat.le_refl _) b cs
                rw [← henter] at g1
                -- the results
                unfold fin at h
                cases hrv : resV e st1 F.res with
                | none => simp [hrv] at h
                | some vs1 =>
                  simp only [hrv] at h
                  cases hcv : convVs F.cv vs1 st1 with
                  | none => simp [hcv] at h
                  | some r2 =>
                    obtain ⟨vs2, st2⟩ := r2
                    simp only [hcv] at h
                    cases hgc : gc st.length vs2 st2 with
                    | none => simp [hgc] at h
                    | some r3 =>
                      obtain ⟨vs3, st3⟩ := r3
                      simp only [hgc] at h
                      cases h
                      obtain ⟨ys, k1, k2⟩ := results_run (P := P) g2 h4 hrv
                      obtain ⟨Z2, σ2, S2, hv2, E2, l2⟩ := convVs_sound g2.sim hcv k2
                      obtain ⟨σ3, S3, hv3, E3, l3⟩ := gc_sound S2 hgc hv2
                      have hE : Ext st.length w Z σ st w' Z2 σ3 st' := g3.trans ((E2.le g4).trans E3)
                      have hres : (results fn a'.tmps).run P w' = .ok (if h : ys.toArray.size = 1 then ys.toArray[0] else .tuple ys.toArray) w' := by
                        have e1 : results fn a'.tmps = (do let vs ← fn.results.mapM (resOne a'.tmps); pure (if h : vs.size = 1 then vs[0] else .tuple vs)) := rfl
                        rw [e1, Array.mapM_eq_mapM_toList]
                        simp only [Sem.run_bind, Sem.run_map, k1, Result.andThen_ok, Sem.run_pure]
                      refine ⟨.returned (if h : ys.toArray.size = 1 then ys.toArray[0] else .tuple ys.toArray), w', { b.at a' todo with mode := .returning }, ⟨_, rfl, Z2, σ3, S3, ?_, hE⟩, g1, rfl, rfl, g2.defers, rfl, fn, hfn, hres⟩
                      -- one result, or a tuple
                      by_cases h1r : ys.length = 1
                      · match ys, vs3, hv3, h1r with
                        | [y], vs3, hv3, _ =>
                          match vs3, hv3 with
                          | [], hv3 => exact absurd hv3.1 (by simp)
                          | [v3], hv3 => simpa [oneOf] using hv3.2 0 v3 y rfl rfl
                          | _ :: _ :: _, hv3 => exact absurd hv3.1 (by simp)
                      · rw [dif_neg (by simpa using h1r)]
                        have : oneOf vs3 = .tup vs3 := by
                          match vs3, hv3 with
                          | [], _ => rfl
                          | [v3], hv3 => exact absurd hv3.1.symm (by simp; omega)
                          | _ :: _ :: _, _ => rfl
                        rw [this]
                        exact .tup (by simpa using hv3.1) (fun i c y q1 q2 => hv3.2 i c y q1 (by simpa using q2))
        · cases h

end
end Go.Proofs.Ytghhjbbildemiaa.AM

namespace Go.Proofs.Ytghhjbbildemiaa.AM
open Go

/-- More answers. -/
def OLt (C C' : Orc) : Prop := ∀ f vs st r, C f vs st = some r → C' f vs st = some r

/-- A family that grows, and what it grows to. -/
structure Grows (Cn : Nat → Orc) (C : Orc) : Prop where
  mono : ∀ n, OLt (Cn n) (Cn (n + 1))
  up : ∀ n, OLt (Cn n) C
  lim : ∀ f vs st r, C f vs st = some r → ∃ n, Cn n f vs st = some r

theorem Grows.le {Cn : Nat → Orc} {C : Orc} (h : Grows Cn C) {n m : Nat} (hl : n ≤ m) : OLt (Cn n) (Cn m) := by
  induction hl with
  | refl => exact fun _ _ _ _ h => h
  | step _ ih => exact fun f vs st r hr => h.mono _ _ _ _ _ (ih f vs st r hr)

theorem mcall_mono {C C' : Orc} (h : OLt C C') {q : Bool} {ms : List Bool} {f : Nat} {vs : List AV} {st : St} {r : AV × St} (hr : mcall C q ms f vs st = some r) : mcall C' q ms f vs st = some r := by
  unfold mcall at hr ⊢
  cases hb : brwA st ms vs with
  | none => simp only [hb] at hr; cases hr
  | some p =>
    obtain ⟨as, bl⟩ := p
    simp only [hb] at hr ⊢
    cases ho : reach (frzAll st bl) (hOfL as) with
    | nil =>
      simp only [ho] at hr ⊢
      cases hc : C f (renL (idx []) as) [] with
      | none => simp only [hc] at hr; cases hr
      | some y => simp only [hc] at hr; simp only [h _ _ _ _ hc]; exact hr
    | cons h0 t =>
      simp only [ho] at hr ⊢
      split at hr
      · cases hr
      · rename_i hq
        rw [if_neg hq]
        cases hp : pickO (frzAll st bl) (h0 :: t) with
        | none => simp only [hp] at hr; cases hr
        | some os =>
          simp only [hp] at hr ⊢
          cases hc : C f (renL (idx (h0 :: t)) as) (renS (idx (h0 :: t)) os) with
          | none => simp only [hc] at hr; cases hr
          | some y => simp only [hc] at hr; simp only [h _ _ _ _ hc]; exact hr

theorem mcall_cont {Cn : Nat → Orc} {C : Orc} (g : Grows Cn C) {q : Bool} {ms : List Bool} {f : Nat} {vs : List AV} {st : St} {r : AV × St} (hr : mcall C q ms f vs st = some r) : ∃ n, mcall (Cn n) q ms f vs st = some r := by
  unfold mcall at hr ⊢
  cases hb : brwA st ms vs with
  | none => simp only [hb] at hr; cases hr
  | some p =>
    obtain ⟨as, bl⟩ := p
    simp only [hb] at hr ⊢
    cases ho : reach (frzAll st bl) (hOfL as) with
    | nil =>
      simp only [ho] at hr ⊢
      cases hc : C f (renL (idx []) as) [] with
      | none => simp only [hc] at hr; cases hr
      | some y =>
        obtain ⟨n, hn⟩ := g.lim _ _ _ _ hc
        exact ⟨n, by simp only [hc] at hr; simp only [hn]; exact hr⟩
    | cons h0 t =>
      simp only [ho] at hr ⊢
      split at hr
      · cases hr
      · rename_i hq
        simp only [if_neg hq]
        cases hp : pickO (frzAll st bl) (h0 :: t) with
        | none => simp only [hp] at hr; cases hr
        | some os =>
          simp only [hp] at hr ⊢
          cases hc : C f (renL (idx (h0 :: t)) as) (renS (idx (h0 :: t)) os) with
          | none => simp only [hc] at hr; cases hr
          | some y =>
            obtain ⟨n, hn⟩ := g.lim _ _ _ _ hc
            exact ⟨n, by simp only [hc] at hr; simp only [hn]; exact hr⟩

theorem pcal_mono {C C' : Orc} (h : OLt C C') {f : Nat} {vs : List AV} {r : AV} (hr : pcal C f vs = some r) : pcal C' f vs = some r := by
  unfold pcal at hr ⊢
  split at hr
  · split at hr
    · split at hr
      · rename_i hc
        rw [h _ _ _ _ hc]; exact hr
      · cases hr
    · cases hr
  · cases hr

theorem pcal_cont {Cn : Nat → Orc} {C : Orc} (g : Grows Cn C) {f : Nat} {vs : List AV} {r : AV} (hr : pcal C f vs = some r) : ∃ n, pcal (Cn n) f vs = some r := by
  unfold pcal at hr ⊢
  split at hr
  · split at hr
    · split at hr
      · rename_i hc
        obtain ⟨n, hn⟩ := g.lim _ _ _ _ hc
        exact ⟨n, by rw [hn]; exact hr⟩
      · cases hr
    · cases hr
  · cases hr

theorem lcal_mono {C C' : Orc} (h : OLt C C') {L f : Nat} {vs : List AV} {st : St} {r : AV} (hr : lcal C L f vs st = some r) : lcal C' L f vs st = some r := by
  unfold lcal at hr ⊢
  split at hr
  · split at hr
    · rename_i hc
      rw [h _ _ _ _ hc]; exact hr
    · cases hr
  · cases hr

theorem lcal_cont {Cn : Nat → Orc} {C : Orc} (g : Grows Cn C) {L f : Nat} {vs : List AV} {st : St} {r : AV} (hr : lcal C L f vs st = some r) : ∃ n, lcal (Cn n) L f vs st = some r := by
  unfold lcal at hr ⊢
  split at hr
  · split at hr
    · rename_i hc
      obtain ⟨n, hn⟩ := g.lim _ _ _ _ hc
      exact ⟨n, by rw [hn]; exact hr⟩
    · cases hr
  · cases hr

theorem aop_mono {C C' : Orc} (h : OLt C C') {L : Nat} {o : AOp} {ρ : Nat → AV} {st : St} {r : AV × St} (hr : aop C L o ρ st = some r) : aop C' L o ρ st = some r := by
  cases o with
  | call q ms f xs =>
    simp only [aop] at hr ⊢
    split at hr
    · exact mcall_mono h hr
    · cases hr
  | lcall f xs =>
    simp only [aop] at hr ⊢
    split at hr
    · rename_i g caps _
      cases hp : lcal C L g (evL ρ xs ++ caps) st with
      | none => simp only [hp, pair2] at hr; cases hr
      | some v => rw [lcal_mono h hp]; rw [hp] at hr; exact hr
    · cases hr
  | pcall f xs =>
    simp only [aop] at hr ⊢
    split at hr
    · rename_i g caps _
      cases hp : pcal C g (evL ρ xs ++ caps) with
      | none => simp only [hp, pair2] at hr; cases hr
      | some v => rw [pcal_mono h hp]; rw [hp] at hr; exact hr
    · cases hr
  | _ => exact hr

theorem aop_cont {Cn : Nat → Orc} {C : Orc} (g : Grows Cn C) {L : Nat} {o : AOp} {ρ : Nat → AV} {st : St} {r : AV × St} (hr : aop C L o ρ st = some r) : ∃ n, aop (Cn n) L o ρ st = some r := by
  cases o with
  | call q ms f xs =>
    simp only [aop] at hr ⊢
    split at hr
    · exact mcall_cont g hr
    · cases hr
  | lcall f xs =>
    simp only [aop] at hr ⊢
    split at hr
    · rename_i k caps _
      cases hp : lcal C L k (evL ρ xs ++ caps) st with
      | none => simp only [hp, pair2] at hr; cases hr
      | some v =>
        obtain ⟨n, hn⟩ := lcal_cont g hp
        exact ⟨n, by rw [hn]; rw [hp] at hr; exact hr⟩
    · cases hr
  | pcall f xs =>
    simp only [aop] at hr ⊢
    split at hr
    · rename_i k caps _
      cases hp : pcal C k (evL ρ xs ++ caps) with
      | none => simp only [hp, pair2] at hr; cases hr
      | some v =>
        obtain ⟨n, hn⟩ := pcal_cont g hp
        exact ⟨n, by rw [hn]; rw [hp] at hr; exact hr⟩
    · cases hr
  | _ => exact ⟨0, hr⟩

theorem gstep_mono {C C' : Orc} (h : OLt C C') {L : Nat} {x : AI} {ρ : Nat → AV} {st : St} {r : AV × St} (hr : gstep C L x ρ st = some r) : gstep C' L x ρ st = some r := by
  unfold gstep at hr ⊢
  cases hg : x.guard with
  | none => rw [hg] at hr; exact aop_mono h hr
  | some gb =>
    obtain ⟨k, b⟩ := gb
    simp only [hg] at hr ⊢
    split at hr
    · split at hr
      · rename_i hb; simp only [hb, if_true]; exact aop_mono h hr
      · rename_i hb; simp only [hb, if_false]; exact hr
    · exact hr
    · cases hr

theorem gstep_cont {Cn : Nat → Orc} {C : Orc} (g : Grows Cn C) {L : Nat} {x : AI} {ρ : Nat → AV} {st : St} {r : AV × St} (hr : gstep C L x ρ st = some r) : ∃ n, gstep (Cn n) L x ρ st = some r := by
  unfold gstep at hr ⊢
  cases hg : x.guard with
  | none => rw [hg] at hr; exact aop_cont g hr
  | some gb =>
    obtain ⟨k, b⟩ := gb
    simp only [hg] at hr ⊢
    split at hr
    · split at hr
      · rename_i hb; simp only [hb, if_true]; exact aop_cont g hr
      · rename_i hb; simp only [hb, if_false]; exact ⟨0, hr⟩
    · exact ⟨0, hr⟩
    · cases hr

theorem astep_some {C : Orc} {L : Nat} {x : AI} {ρ ρ1 : Nat → AV} {st st1 : St} : astep C L x ρ st = some (ρ1, st1) ↔ ∃ v, gstep C L x ρ st = some (v, st1) ∧ ρ1 = put ρ x.dst v := by
  rw [astep_eq]
  cases gstep C L x ρ st with
  | none => simp
  | some r =>
    obtain ⟨v, s⟩ := r
    simp
    constructor
    · rintro ⟨rfl, rfl⟩; exact ⟨v, ⟨rfl, rfl⟩, rfl⟩
    · rintro ⟨v', ⟨rfl, rfl⟩, rfl⟩; exact ⟨rfl, rfl⟩

theorem aops_mono {C C' : Orc} (h : OLt C C') {lim : Option Nat} : ∀ {xs : List AI} {ρ : Nat → AV} {st : St} {r : (Nat → AV) × St}, aops C lim xs ρ st = some r → aops C' lim xs ρ st = some r
  | [], ρ, st, r, hr => hr
  | x :: xs, ρ, st, r, hr => by
    simp only [aops] at hr ⊢
    cases hs : astep C (lim.getD st.length) x ρ st with
    | none => simp only [hs] at hr; cases hr
    | some p =>
      obtain ⟨ρ1, st1⟩ := p
      simp only [hs] at hr
      obtain ⟨v, h1, h2⟩ := astep_some.1 hs
      rw [astep_some.2 ⟨v, gstep_mono h h1, h2⟩]
      exact aops_mono h hr

theorem aops_cont {Cn : Nat → Orc} {C : Orc} (g : Grows Cn C) {lim : Option Nat} : ∀ {xs : List AI} {ρ : Nat → AV} {st : St} {r : (Nat → AV) × St}, aops C lim xs ρ st = some r → ∃ n, aops (Cn n) lim xs ρ st = some r
  | [], ρ, st, r, hr => ⟨0, hr⟩
  | x :: xs, ρ, st, r, hr => by
    simp only [aops] at hr ⊢
    cases hs : astep C (lim.getD st.length) x ρ st with
    | none => simp only [hs] at hr; cases hr
    | some p =>
      obtain ⟨ρ1, st1⟩ := p
      simp only [hs] at hr
      obtain ⟨v, h1, h2⟩ := astep_some.1 hs
      obtain ⟨n1, k1⟩ := gstep_cont g h1
      obtain ⟨n2, k2⟩ := aops_cont g hr
      refine ⟨max n1 n2, ?_⟩
      rw [astep_some.2 ⟨v, gstep_mono (g.le (Nat.le_max_left _ _)) k1, h2⟩]
      exact aops_mono (g.le (Nat.le_max_right _ _)) k2

theorem nx_mono {C C' : Orc} (h : OLt C C') {m : Nat} {K : List AT} {e : Env} {st : St} {r : Nx} (hr : nx C m K e st = some r) : nx C' m K e st = some r := by
  cases K with
  | nil => exact hr
  | cons x K =>
    cases x with
    | code c =>
      cases c with
      | reg dr ops kp =>
        simp only [nx] at hr ⊢
        cases ha : aops C (if dr = true then some (List.length st) else none) ops (eget e) st with
        | none => simp only [ha] at hr; cases hr
        | some p => simp only [ha] at hr; simp only [aops_mono h ha]; exact hr
      | _ => exact hr
    | _ => exact hr

theorem nx_cont {Cn : Nat → Orc} {C : Orc} (g : Grows Cn C) {m : Nat} {K : List AT} {e : Env} {st : St} {r : Nx} (hr : nx C m K e st = some r) : ∃ n, nx (Cn n) m K e st = some r := by
  cases K with
  | nil => exact ⟨0, hr⟩
  | cons x K =>
    cases x with
    | code c =>
      cases c with
      | reg dr ops kp =>
        simp only [nx] at hr ⊢
        cases ha : aops C (if dr = true then some (List.length st) else none) ops (eget e) st with
        | none => simp only [ha] at hr; cases hr
        | some p =>
          obtain ⟨n, hn⟩ := aops_cont g ha
          exact ⟨n, by simp only [ha] at hr; simp only [hn]; exact hr⟩
      | _ => exact ⟨0, hr⟩
    | _ => exact ⟨0, hr⟩

theorem runK_mono {C C' : Orc} (h : OLt C C') {m : Nat} : ∀ {n n' : Nat} {K : List AT} {e : Env} {st : St} {r : Env × St}, n ≤ n' → runK C m n K e st = some r → runK C' m n' K e st = some r
  | 0, _, _, _, _, _, _, hr => by simp [runK] at hr
  | n + 1, 0, _, _, _, _, hl, _ => by omega
  | n + 1, n' + 1, K, e, st, r, hl, hr => by
    simp only [runK] at hr ⊢
    cases hx : nx C m K e st with
    | none => simp only [hx] at hr; cases hr
    | some y =>
      simp only [hx] at hr
      simp only [nx_mono h hx]
      cases y with
      | go K1 e1 st1 => exact runK_mono h (by omega) hr
      | done e1 st1 => exact hr

theorem runK_cont {Cn : Nat → Orc} {C : Orc} (g : Grows Cn C) {m : Nat} : ∀ {n : Nat} {K : List AT} {e : Env} {st : St} {r : Env × St}, runK C m n K e st = some r → ∃ k, runK (Cn k) m n K e st = some r
  | 0, _, _, _, _, hr => by simp [runK] at hr
  | n + 1, K, e, st, r, hr => by
    simp only [runK] at hr ⊢
    cases hx : nx C m K e st with
    | none => simp only [hx] at hr; cases hr
    | some y =>
      simp only [hx] at hr
      obtain ⟨k1, h1⟩ := nx_cont g hx
      cases y with
      | go K1 e1 st1 =>
        obtain ⟨k2, h2⟩ := runK_cont g hr
        refine ⟨max k1 k2, ?_⟩
        rw [nx_mono (g.le (Nat.le_max_left _ _)) h1]
        exact runK_mono (g.le (Nat.le_max_right _ _)) (Nat.le_refl _) h2
      | done e1 st1 => exact ⟨k1, by rw [h1]; exact hr⟩

section
variable (T : Nat → Option AFunc) (X : Orc)

theorem callK_mono : ∀ n, OLt (callK T X n) (callK T X (n + 1))
  | 0, f, vs, st, r, h => by
    simp only [callK] at h ⊢
    rw [h]
  | n + 1, f, vs, st, r, h => by
    have ih := callK_mono n
    rw [callK] at h ⊢
    cases hx : X f vs st with
    | some y => simp only [hx] at h ⊢; exact h
    | none =>
      simp only [hx] at h ⊢
      cases hF : T f with
      | none => simp only [hF] at h; cases h
      | some F =>
        simp only [hF] at h ⊢
        split at h
        · rename_i hnp
          rw [if_pos hnp]
          cases hr : runK (callK T X n) st.length n [.code F.body] (args 0 vs) st with
          | none => simp only [hr] at h; cases h
          | some p => simp only [hr] at h; simp only [runK_mono ih (Nat.le_succ n) hr]; exact h
        · cases h

open Classical in
/-- A call. -/
noncomputable def acall : Orc := fun f vs st => if h : ∃ r n, callK T X n f vs st = some r then some h.choose else none

theorem callK_le {n m : Nat} (h : n ≤ m) : OLt (callK T X n) (callK T X m) := by
  induction h with
  | refl => exact fun _ _ _ _ h => h
  | step _ ih => exact fun f vs st r hr => callK_mono T X _ _ _ _ _ (ih f vs st r hr)

theorem acall_iff {f : Nat} {vs : List AV} {st : St} {r : AV × St} : acall T X f vs st = some r ↔ ∃ n, callK T X n f vs st = some r := by
  unfold acall
  constructor
  · intro h
    split at h
    · rename_i hh
      obtain ⟨n, hn⟩ := hh.choose_spec
      cases h
      exact ⟨n, hn⟩
    · cases h
  · rintro ⟨n, hn⟩
    have hh : ∃ r n, callK T X n f vs st = some r := ⟨r, n, hn⟩
    rw [dif_pos hh]
    obtain ⟨k, hk⟩ := hh.choose_spec
    have h1 := callK_le T X (Nat.le_max_left n k) _ _ _ _ hn
    have h2 := callK_le T X (Nat.le_max_right n k) _ _ _ _ hk
    rw [h1] at h2
    exact h2.symm

theorem grows : Grows (callK T X) (acall T X) :=
  ⟨callK_mono T X, fun n _ _ _ _ h => (acall_iff T X).2 ⟨n, h⟩, fun _ _ _ _ h => (acall_iff T X).1 h⟩

open Classical in
/-- A run. -/
noncomputable def run (m : Nat) (K : List AT) (e : Env) (st : St) : Option (Env × St) := if h : ∃ r n, runK (acall T X) m n K e st = some r then some h.choose else none

theorem run_iff {m : Nat} {K : List AT} {e : Env} {st : St} {r : Env × St} : run T X m K e st = some r ↔ ∃ n, runK (acall T X) m n K e st = some r := by
  unfold run
  constructor
  · intro h
    split at h
    · rename_i hh
      obtain ⟨n, hn⟩ := hh.choose_spec
      cases h
      exact ⟨n, hn⟩
    · cases h
  · rintro ⟨n, hn⟩
    have hh : ∃ r n, runK (acall T X) m n K e st = some r := ⟨r, n, hn⟩
    rw [dif_pos hh]
    obtain ⟨k, hk⟩ := hh.choose_spec
    have h1 := runK_mono (C := acall T X) (fun _ _ _ _ h => h) (Nat.le_max_left n k) hn
    have h2 := runK_mono (C := acall T X) (fun _ _ _ _ h => h) (Nat.le_max_right n k) hk
    rw [h1] at h2
    exact h2.symm

/-- One step of a run. -/
theorem run_eq (m : Nat) (K : List AT) (e : Env) (st : St) : run T X m K e st = match nx (acall T X) m K e st with
    | some (.go K1 e1 st1) => run T X m K1 e1 st1
    | some (.done e1 st1) => some (e1, st1)
    | none => none := by
  apply Option.ext
  intro r
  rw [run_iff]
  constructor
  · rintro ⟨n, hn⟩
    cases n with
    | zero => simp [runK] at hn
    | succ n =>
      simp only [runK] at hn
      cases hx : nx (acall T X) m K e st with
      | none => simp only [hx] at hn; cases hn
      | some y =>
        simp only [hx] at hn
        cases y with
        | go K1 e1 st1 => exact (run_iff T X).2 ⟨n, hn⟩
        | done e1 st1 => exact hn
  · intro h
    cases hx : nx (acall T X) m K e st with
    | none => simp only [hx] at h; cases h
    | some y =>
      simp only [hx] at h
      cases y with
      | go K1 e1 st1 =>
        obtain ⟨n, hn⟩ := (run_iff T X).1 h
        exact ⟨n + 1, by simp only [runK, hx]; exact hn⟩
      | done e1 st1 => exact ⟨1, by simp only [runK, hx]; exact h⟩

/-- A call unfolds to a run of the function's body. -/
theorem acall_eq {f : Nat} {F : AFunc} (hF : T f = some F) {vs : List AV} {st : St} (hX : X f vs st = none) (hn : vs.length = F.np) :
    acall T X f vs st = match run T X st.length [.code F.body] (args 0 vs) st with
      | some (e, st1) => fin F st.length e st1
      | none => none := by
  apply Option.ext
  intro r
  rw [acall_iff]
  constructor
  · rintro ⟨n, h⟩
    cases n with
    | zero => simp only [callK] at h; rw [hX] at h; cases h
    | succ n =>
      simp only [callK, hX, hF, if_pos hn] at h
      cases hr : runK (callK T X n) st.length n [.code F.body] (args 0 vs) st with
      | none => simp only [hr] at h; cases h
      | some p =>
        simp only [hr] at h
        have := (run_iff T X).2 ⟨n, runK_mono ((grows T X).up n) (Nat.le_refl _) hr⟩
        rw [this]; exact h
  · intro h
    cases hr : run T X st.length [.code F.body] (args 0 vs) st with
    | none => simp only [hr] at h; cases h
    | some p =>
      simp only [hr] at h
      obtain ⟨n, hn'⟩ := (run_iff T X).1 hr
      obtain ⟨k, hk⟩ := runK_cont (grows T X) hn'
      refine ⟨max n k + 1, ?_⟩
      simp only [callK, hX, hF, if_pos hn]
      rw [runK_mono (callK_le T X (Nat.le_max_right n k)) (Nat.le_max_left n k) hk]
      exact h

/-- What is told from outside. -/
theorem acall_x {f : Nat} {vs : List AV} {st : St} {r : AV × St} (hX : X f vs st = some r) : acall T X f vs st = some r := (acall_iff T X).2 ⟨0, hX⟩

theorem acall_ok {P : Program} {Φ : Nat → FuncId} (hT : TOk P Φ T) (hX : COk P Φ X) : COk P Φ (acall T X) := by
  intro f vs st v st' h
  obtain ⟨n, hn⟩ := (acall_iff T X).1 h
  exact callK_ok hT hX n f vs st v st' hn

end
end Go.Proofs.Ytghhjbbildemiaa.AM

namespace Go.Proofs.Ytghhjbbildemiaa.AM
open Go

/-! ### Words -/
/-- A word of 64 bits. -/
def D.w (x : BitVec 64) : D := .int .u64 x.toNat
/-- A byte. -/
def D.u (x : BitVec 8) : D := .int .u8 x.toNat

theorem wrapU (n : Int) : IntKind.u64.wrap n = n % 18446744073709551616 := by simp [IntKind.wrap, IntKind.bits, IntKind.signed]
theorem wrapU8 (n : Int) : IntKind.u8.wrap n = n % 256 := by simp [IntKind.wrap, IntKind.bits, IntKind.signed]

theorem wrap_u64_toNat (n : Nat) : IntKind.u64.wrap (n : Int) = ((BitVec.ofNat 64 n).toNat : Nat) := by
  rw [wrapU]; simp

theorem wrap_u64_ofInt (n : Int) : IntKind.u64.wrap n = ((BitVec.ofInt 64 n).toNat : Nat) := by
  rw [wrapU, BitVec.toNat_ofInt]
  omega

section
variable (x y : BitVec 64)

theorem w_add : abin .add (.w x) (.w y) = some (.w (x + y)) := by
  simp only [abin, aint, D.w, if_true]
  rw [← Int.natCast_add, wrap_u64_toNat]
  simp [BitVec.toNat_add]
theorem w_sub : abin .sub (.w x) (.w y) = some (.w (x - y)) := by
  simp only [abin, aint, D.w, if_true]
  rw [wrap_u64_ofInt]
  have : BitVec.ofInt 64 ((x.toNat : Int) - y.toNat) = x - y := by
    apply BitVec.eq_of_toNat_eq
    rw [BitVec.toNat_ofInt, BitVec.toNat_sub]
    have := x.isLt; have := y.isLt
    omega
  rw [this]
theorem w_mul : abin .mul (.w x) (.w y) = some (.w (x * y)) := by
  simp only [abin, aint, D.w, if_true]
  rw [← Int.natCast_mul, wrap_u64_toNat]
  simp [BitVec.toNat_mul]
theorem w_quo : abin .quo (.w x) (.w y) = if y = 0#64 then none else some (.w (x / y)) := by
  have h : ((y.toNat : Int) = 0) ↔ y = 0#64 := by
    constructor
    · intro h; apply BitVec.eq_of_toNat_eq; simpa using h
    · rintro rfl; rfl
  simp only [abin, aint, D.w, if_true, h]
  split
  · rfl
  · rw [← Int.ofNat_tdiv, wrap_u64_toNat, BitVec.toNat_udiv, BitVec.toNat_ofNat, Nat.mod_eq_of_lt (Nat.lt_of_le_of_lt (Nat.div_le_self _ _) x.isLt)]
theorem w_rem : abin .rem (.w x) (.w y) = if y = 0#64 then none else some (.w (x % y)) := by
  have h : ((y.toNat : Int) = 0) ↔ y = 0#64 := by
    constructor
    · intro h; apply BitVec.eq_of_toNat_eq; simpa using h
    · rintro rfl; rfl
  simp only [abin, aint, D.w, if_true, h]
  split
  · rfl
  · rw [← Int.ofNat_tmod, BitVec.toNat_umod]
theorem ofInt_toNat : BitVec.ofInt 64 (x.toNat : Int) = x := by simp
theorem w_and : abin .and (.w x) (.w y) = some (.w (x &&& y)) := by
  have : IntKind.u64.bits = 64 := rfl
  simp only [abin, aint, D.w, if_true]
  show some (D.int .u64 (IntKind.u64.wrap ((BitVec.ofInt 64 (x.toNat : Int) &&& BitVec.ofInt 64 (y.toNat : Int)).toNat : Nat))) = _
  rw [ofInt_toNat, ofInt_toNat, wrap_u64_toNat]; simp
theorem w_or : abin .or (.w x) (.w y) = some (.w (x ||| y)) := by
  simp only [abin, aint, D.w, if_true]
  show some (D.int .u64 (IntKind.u64.wrap ((BitVec.ofInt 64 (x.toNat : Int) ||| BitVec.ofInt 64 (y.toNat : Int)).toNat : Nat))) = _
  rw [ofInt_toNat, ofInt_toNat, wrap_u64_toNat]; simp
theorem w_xor : abin .xor (.w x) (.w y) = some (.w (x ^^^ y)) := by
  simp only [abin, aint, D.w, if_true]
  show some (D.int .u64 (IntKind.u64.wrap ((BitVec.ofInt 64 (x.toNat : Int) ^^^ BitVec.ofInt 64 (y.toNat : Int)).toNat : Nat))) = _
  rw [ofInt_toNat, ofInt_toNat, wrap_u64_toNat]; simp
theorem w_not : aun .xor (.w x) = some (.w (~~~x)) := by
  simp only [aun, D.w]
  show some (D.int .u64 (IntKind.u64.wrap ((BitVec.ofInt 64 IntKind.u64.max ^^^ BitVec.ofInt 64 (x.toNat : Int)).toNat : Nat))) = _
  rw [ofInt_toNat, wrap_u64_toNat]
  have : BitVec.ofInt 64 IntKind.u64.max = BitVec.allOnes 64 := by decide
  rw [this, BitVec.allOnes_xor, BitVec.toNat_ofNat, Nat.mod_eq_of_lt (BitVec.isLt _)]
theorem w_neg : aun .neg (.w x) = some (.w (-x)) := by
  simp only [aun, D.w]
  rw [wrap_u64_ofInt]
  have : BitVec.ofInt 64 (0 - (x.toNat : Int)) = -x := by
    apply BitVec.eq_of_toNat_eq
    rw [BitVec.toNat_ofInt, BitVec.toNat_neg]
    have := x.isLt
    omega
  rw [this]
theorem w_eql : abin .eql (.w x) (.w y) = some (.bool (x == y)) := by
  simp only [abin, aint, D.w, if_true]
  congr 2
  by_cases h : x = y
  · subst h; simp
  · have : (x.toNat : Int) ≠ y.toNat := fun e => h (BitVec.eq_of_toNat_eq (by omega))
    rw [beq_eq_false_iff_ne.2 h, beq_eq_false_iff_ne.2 this]
theorem w_neq : abin .neq (.w x) (.w y) = some (.bool (!(x == y))) := by
  have := w_eql x y
  simp only [abin, aint, D.w, if_true, bne] at this ⊢
  injection this with this
  injection this with this
  rw [this]
theorem w_lss : abin .lss (.w x) (.w y) = some (.bool (decide (x < y))) := by
  simp only [abin, aint, D.w, if_true, BitVec.lt_def]
  congr 3
  exact propext Int.ofNat_lt
theorem w_leq : abin .leq (.w x) (.w y) = some (.bool (decide (x ≤ y))) := by
  simp only [abin, aint, D.w, if_true, BitVec.le_def]
  congr 3
  exact propext Int.ofNat_le
theorem w_gtr : abin .gtr (.w x) (.w y) = some (.bool (decide (y < x))) := by
  simp only [abin, aint, D.w, if_true, BitVec.lt_def]
  congr 3
  exact propext Int.ofNat_lt
theorem w_geq : abin .geq (.w x) (.w y) = some (.bool (decide (y ≤ x))) := by
  simp only [abin, aint, D.w, if_true, BitVec.le_def]
  congr 3
  exact propext Int.ofNat_le

theorem shl_nat (n : Nat) : IntKind.u64.wrap ((x.toNat : Int) * 2 ^ (min n 64)) = ((x <<< n).toNat : Nat) := by
  have : ((x.toNat : Int) * 2 ^ (min n 64)) = ((x.toNat * 2 ^ (min n 64) : Nat) : Int) := by push_cast; rfl
  rw [this, wrap_u64_toNat]
  congr 1
  rw [BitVec.toNat_ofNat, BitVec.toNat_shiftLeft, Nat.shiftLeft_eq]
  rcases Nat.le_total n 64 with h | h
  · rw [Nat.min_eq_left h]
  · rw [Nat.min_eq_right h]
    have e1 : x.toNat * 2 ^ 64 % 2 ^ 64 = 0 := Nat.mul_mod_left _ _
    have e2 : x.toNat * 2 ^ n % 2 ^ 64 = 0 := by
      obtain ⟨k, rfl⟩ := Nat.exists_eq_add_of_le h
      rw [Nat.pow_add, ← Nat.mul_assoc, Nat.mul_right_comm]
      exact Nat.mul_mod_left _ _
    rw [e1, e2]

theorem shr_nat (n : Nat) : (x.toNat : Int).fdiv (2 ^ (min n 64)) = ((x >>> n).toNat : Nat) := by
  have : ((2 : Int) ^ (min n 64)) = ((2 ^ (min n 64) : Nat) : Int) := by push_cast; rfl
  rw [this, Int.fdiv_eq_ediv_of_nonneg _ (Int.natCast_nonneg _), ← Int.natCast_ediv]
  congr 1
  rw [BitVec.toNat_ushiftRight, Nat.shiftRight_eq_div_pow]
  rcases Nat.le_total n 64 with h | h
  · rw [Nat.min_eq_left h]
  · rw [Nat.min_eq_right h, Nat.div_eq_of_lt x.isLt, Nat.div_eq_of_lt (Nat.lt_of_lt_of_le x.isLt (Nat.pow_le_pow_right (by decide) h))]

/-- A number as a word, a word as a number, shifts. -/
def ofI (a : Int) : BitVec 64 := BitVec.ofInt 64 a
def toI (x : BitVec 64) : Int := x.toInt
def sll (x : BitVec 64) (n : Nat) : BitVec 64 := x <<< n
def srl (x : BitVec 64) (n : Nat) : BitVec 64 := x >>> n

theorem w_shl : abin .shl (.w x) (.w y) = some (.w (sll x y.toNat)) := by
  simp only [abin, ashift, D.w]
  rw [if_neg (by omega)]
  simp only [if_true, Int.toNat_natCast]
  exact congrArg (fun n => some (D.int .u64 n)) (shl_nat x y.toNat)
theorem w_shr : abin .shr (.w x) (.w y) = some (.w (srl x y.toNat)) := by
  simp only [abin, ashift, D.w]
  rw [if_neg (by omega)]
  simp only [Bool.false_eq_true, if_false, Int.toNat_natCast]
  exact congrArg (fun n => some (D.int .u64 n)) (shr_nat x y.toNat)
theorem w_shli (k : IntKind) (n : Int) : abin .shl (.w x) (.int k n) = if n < 0 then none else some (.w (sll x n.toNat)) := by
  simp only [abin, ashift, D.w]
  split
  · rfl
  · simp only [if_true]
    exact congrArg (fun n => some (D.int .u64 n)) (shl_nat x n.toNat)
theorem w_shri (k : IntKind) (n : Int) : abin .shr (.w x) (.int k n) = if n < 0 then none else some (.w (srl x n.toNat)) := by
  simp only [abin, ashift, D.w]
  split
  · rfl
  · simp only [Bool.false_eq_true, if_false]
    exact congrArg (fun n => some (D.int .u64 n)) (shr_nat x n.toNat)

/-! ### Numbers -/
variable (a b : Int)
/-- A number as it is kept in 64 bits. -/
def wr (n : Int) : Int := IntKind.i64.wrap n

theorem wr_id {n : Int} (h1 : -9223372036854775808 ≤ n) (h2 : n ≤ 9223372036854775807) : wr n = n := by
  rw [wr, IntKind.wrap_i64]; omega

theorem i_add : abin .add (.int .i64 a) (.int .i64 b) = some (.int .i64 (wr (a + b))) := rfl
theorem i_sub : abin .sub (.int .i64 a) (.int .i64 b) = some (.int .i64 (wr (a - b))) := rfl
theorem i_mul : abin .mul (.int .i64 a) (.int .i64 b) = some (.int .i64 (wr (a * b))) := rfl
theorem i_quo : abin .quo (.int .i64 a) (.int .i64 b) = if b = 0 then none else some (.int .i64 (wr (a.tdiv b))) := rfl
theorem i_rem : abin .rem (.int .i64 a) (.int .i64 b) = if b = 0 then none else some (.int .i64 (a.tmod b)) := rfl
theorem i_eql (k : IntKind) : abin .eql (.int k a) (.int k b) = some (.bool (a == b)) := by simp [abin, aint]
theorem i_neq (k : IntKind) : abin .neq (.int k a) (.int k b) = some (.bool (a != b)) := by simp [abin, aint]
theorem i_lss (k : IntKind) : abin .lss (.int k a) (.int k b) = some (.bool (decide (a < b))) := by simp [abin, aint]
theorem i_leq (k : IntKind) : abin .leq (.int k a) (.int k b) = some (.bool (decide (a ≤ b))) := by simp [abin, aint]
theorem i_gtr (k : IntKind) : abin .gtr (.int k a) (.int k b) = some (.bool (decide (b < a))) := by simp [abin, aint]
theorem i_geq (k : IntKind) : abin .geq (.int k a) (.int k b) = some (.bool (decide (b ≤ a))) := by simp [abin, aint]
theorem i_neg : aun .neg (.int .i64 a) = some (.int .i64 (wr (0 - a))) := rfl
theorem b_not (p : Bool) : aun .not (.bool p) = some (.bool (!p)) := rfl

/-- Conversions. -/
def cnv (k : IntKind) : D → Option D
  | .int _ n => some (.int k (k.wrap n))
  | _ => none

theorem cnv_wi : cnv .u64 (.int .i64 a) = some (.w (ofI a)) := by
  simp only [cnv, D.w, wrap_u64_ofInt, ofI]
theorem cnv_iw : cnv .i64 (.w x) = some (.int .i64 (toI x)) := by
  simp only [cnv, D.w, toI]
  congr 2
  rw [IntKind.wrap_i64, BitVec.toInt_eq_toNat_cond]
  have := x.isLt
  split <;> omega
theorem cnv_ww : cnv .u64 (.w x) = some (.w x) := by
  simp only [cnv, D.w]
  rw [wrap_u64_toNat]; simp
theorem cnv_ii : cnv .i64 (.int .i64 a) = some (.int .i64 (wr a)) := rfl
theorem cnv_iu (z : BitVec 8) : cnv .i64 (.u z) = some (.int .i64 z.toNat) := by
  simp only [cnv, D.u]
  congr 2
  rw [IntKind.wrap_i64]
  have := z.isLt
  omega
theorem cnv_ui : cnv .u8 (.int .i64 a) = some (.u (BitVec.ofInt 8 a)) := by
  simp only [cnv, D.u]
  congr 2
  rw [wrapU8, BitVec.toNat_ofInt]
  omega
end
end Go.Proofs.Ytghhjbbildemiaa.AM

namespace Go.Proofs.Ytghhjbbildemiaa.AM
open Go

theorem put_eget (e : Env) (t : Nat) (v : AV) : put (eget e) (some t) v = eget ((t, v) :: e) := by
  funext x; rfl
theorem put_none (ρ : Nat → AV) (v : AV) : put ρ none v = ρ := rfl
theorem eget_nil (x : Nat) : eget [] x = .undef := rfl
theorem eget_same (t : Nat) (v : AV) (e : Env) : eget ((t, v) :: e) t = v := by simp [eget]
theorem eget_cons (t u : Nat) (v : AV) (e : Env) : eget ((t, v) :: e) u = if t = u then v else eget e u := rfl

/-- A run to a function's end and its results. -/
noncomputable def go (T : Nat → Option AFunc) (X : Orc) (F : AFunc) (m : Nat) (K : List AT) (e : Env) (st : St) : Option (AV × St) :=
  match run T X m K e st with
  | some (e1, st1) => fin F m e1 st1
  | none => none

theorem acall_go {T : Nat → Option AFunc} {X : Orc} {f : Nat} {F : AFunc} {vs : List AV} {st : St} (hF : T f = some F) (hX : X f vs st = none) (hn : vs.length = F.np) :
    acall T X f vs st = go T X F st.length [.code F.body] (args 0 vs) st := acall_eq T X hF hX hn

section
variable (T : Nat → Option AFunc) (X : Orc) (F : AFunc) (m : Nat) (K : List AT) (e : Env) (st : St)

theorem go_eq : go T X F m K e st = match nx (acall T X) m K e st with
    | some (.go K1 e1 st1) => go T X F m K1 e1 st1
    | some (.done e1 st1) => fin F m e1 st1
    | none => none := by
  unfold go
  rw [run_eq]
  cases nx (acall T X) m K e st with
  | none => rfl
  | some y => cases y <;> rfl

theorem go_skip : go T X F m (.code .skip :: K) e st = go T X F m K e st := by rw [go_eq]; rfl
theorem go_nil : go T X F m [] e st = fin F m e st := by rw [go_eq]; rfl
theorem go_ret : go T X F m (.code .ret :: K) e st = fin F m e st := by rw [go_eq]; rfl
theorem go_seq (a b : AC) : go T X F m (.code (.seq a b) :: K) e st = go T X F m (.code a :: .code b :: K) e st := by rw [go_eq]; rfl
theorem go_block (id : Nat) (c : AC) : go T X F m (.code (.block id c) :: K) e st = go T X F m (.code c :: .inBlock id :: K) e st := by rw [go_eq]; rfl
theorem go_inBlock (id : Nat) : go T X F m (.inBlock id :: K) e st = go T X F m K e st := by rw [go_eq]; rfl
theorem go_exit (id : Nat) : go T X F m (.code (.exit id) :: K) e st = match aexit id K with | some K1 => go T X F m K1 e st | none => none := by
  rw [go_eq]; simp only [nx]; cases aexit id K <;> rfl
theorem go_loop (kp : List (Nat × CV)) (c : AC) : go T X F m (.code (.loop kp c) :: K) e st = go T X F m (.inLoop kp c :: K) e st := by
  rw [go_eq, go_eq T X F m (.inLoop kp c :: K)]; rfl
theorem go_kp (kp : List (Nat × CV)) (c : AC) : go T X F m (.code (.kp kp c) :: K) e st = match head m kp e st with | some (e1, st1) => go T X F m (.code c :: K) e1 st1 | none => none := by
  rw [go_eq]; simp only [nx]; cases head m kp e st <;> rfl
theorem go_inLoop (kp : List (Nat × CV)) (c : AC) : go T X F m (.inLoop kp c :: K) e st = match head m kp e st with | some (e1, st1) => go T X F m (.code c :: .inLoop kp c :: K) e1 st1 | none => none := by
  rw [go_eq]; simp only [nx]; cases head m kp e st <;> rfl
theorem go_cond (c : AOpd) (a b : AC) : go T X F m (.code (.cond c a b) :: K) e st = match c.ev (eget e) with
    | .d (.bool t) => if t then go T X F m (.code a :: K) e st else go T X F m (.code b :: K) e st
    | _ => none := by
  rw [go_eq]; simp only [nx]
  cases c.ev (eget e) with
  | d x =>
    cases x with
    | bool t => cases t <;> rfl
    | _ => rfl
  | _ => rfl
theorem go_reg (dr : Bool) (ops : List AI) (kp : List Nat) : go T X F m (.code (.reg dr ops kp) :: K) e st = match aops (acall T X) (if dr then some st.length else none) ops (eget e) st with
    | some (ρ, st1) => go T X F m K (keep ρ kp) st1
    | none => none := by
  rw [go_eq]; simp only [nx]
  cases aops (acall T X) (if dr then some st.length else none) ops (eget e) st <;> rfl

variable (C : Orc) (lim : Option Nat) (ρ : Nat → AV)
theorem aops_nil : aops C lim [] ρ st = some (ρ, st) := rfl
theorem aops_cons (d : Option Nat) (o : AOp) (os : List AI) : aops C lim (⟨d, none, o⟩ :: os) ρ st = match aop C (lim.getD st.length) o ρ st with
    | some (v, st1) => aops C lim os (put ρ d v) st1
    | none => none := by
  simp only [aops, astep]
  cases aop C (lim.getD st.length) o ρ st <;> rfl
theorem aops_guard (d : Option Nat) (g : Nat) (want : Bool) (o : AOp) (os : List AI) : aops C lim (⟨d, some (g, want), o⟩ :: os) ρ st = match ρ g with
    | .d (.bool b) => if b = want then (match aop C (lim.getD st.length) o ρ st with
        | some (v, st1) => aops C lim os (put ρ d v) st1
        | none => none) else aops C lim os (put ρ d (.tup [])) st
    | .tup [] => aops C lim os (put ρ d (.tup [])) st
    | _ => none := by
  simp only [aops, astep]
  generalize ρ g = V
  have key : ∀ b : Bool, (match (if b = want then (match aop C (lim.getD st.length) o ρ st with
        | some (v, st1) => some (put ρ d v, st1)
        | none => none) else some (put ρ d (.tup []), st)) with
      | some (ρ1, st1) => aops C lim os ρ1 st1
      | none => none) = if b = want then (match aop C (lim.getD st.length) o ρ st with
        | some (v, st1) => aops C lim os (put ρ d v) st1
        | none => none) else aops C lim os (put ρ d (.tup [])) st := by
    intro b
    by_cases hb : b = want
    · simp only [if_pos hb]; cases aop C (lim.getD st.length) o ρ st <;> rfl
    · simp only [if_neg hb]
  cases V with
  | d x =>
    cases x with
    | bool b => exact key b
    | _ => rfl
  | tup vs => cases vs <;> rfl
  | _ => rfl

/-! ### Operations -/
variable (L : Nat)
theorem o_mv (x : AOpd) : aop C L (.mv x) ρ st = some (x.ev ρ, st) := rfl
theorem o_bin (op : BinOp) (x y : AOpd) : aop C L (.bin op x y) ρ st = pair2 (dbin (abin op) (x.ev ρ) (y.ev ρ)) st := rfl
theorem o_conv (k : IntKind) (x : AOpd) : aop C L (.conv k x) ρ st = match x.ev ρ with | .d y => (match cnv k y with | some z => some (.d z, st) | none => none) | _ => none := by
  simp only [aop]
  split
  · rename_i h; rw [h]; rfl
  · rename_i h
    cases hx : x.ev ρ with
    | d y => cases y <;> first | rfl | exact absurd hx (h _ _)
    | _ => rfl
theorem ev_t (n : Nat) : (AOpd.t n).ev ρ = ρ n := rfl
theorem ev_k (d : D) : (AOpd.k d).ev ρ = .d d := rfl
theorem ev_f (i : Nat) : (AOpd.f i).ev ρ = .fn i [] := rfl
end
theorem dbin_d (f : D → D → Option D) (x y : D) : dbin f (.d x) (.d y) = match f x y with | some z => some (.d z) | none => none := rfl
theorem pair2_some (v : AV) (st : St) : pair2 (some v) st = some (v, st) := rfl
theorem pair2_none (st : St) : pair2 none st = none := rfl
theorem getD_n (n : Nat) : (none : Option Nat).getD n = n := rfl
theorem getD_s (n k : Nat) : (some k : Option Nat).getD n = k := rfl
end Go.Proofs.Ytghhjbbildemiaa.AM

namespace Go.Proofs.Ytghhjbbildemiaa.AM
open Go

section
variable (C : Orc) (lim : Nat) (ρ : Nat → AV) (st : St)
theorem o_pick (c : AOpd) (a : AOpd) (b : AOpd) : aop C lim (.pick c a b) ρ st = (match c.ev ρ with
    | .d (.bool t) => some (if t then a.ev ρ else b.ev ρ, st)
    | _ => none) := rfl
theorem o_alloc (z : List AV) : aop C lim (.alloc z) ρ st = (some (.ptr st.length 0 0 0, st ++ [.box z])) := rfl
theorem o_box (x : AOpd) : aop C lim (.box x) ρ st = (if solL (x.ev ρ).cells then some (.ptr st.length 0 0 0, st ++ [.box (x.ev ρ).cells]) else none) := rfl
theorem o_build (z : List AV) (ps : List (Nat × Nat × AOpd)) : aop C lim (.build z ps) ρ st = (match fillC ρ ps z with | some cs => some (.agg cs, st) | none => none) := rfl
theorem o_bslice (sz : Nat) (z : List D) (n : Nat) (ps : List (Nat × AOpd)) : aop C lim (.bslice sz z n ps) ρ st = (match fillE ρ sz ps (List.replicate n z) st with
    | some (es, st1) => some (.hs st1.length sz 0 n, st1 ++ [.arr sz es true])
    | none => none) := rfl
theorem o_load (n : Option Nat) (x : AOpd) : aop C lim (.load n x) ρ st = (pair2 (rd lim st n (x.ev ρ)) st) := rfl
theorem o_store (n : Nat) (a : AOpd) (v : AOpd) : aop C lim (.store n a v) ρ st = (match wrt st n (a.ev ρ) (v.ev ρ) with | some st1 => some (.tup [], st1) | none => none) := rfl
theorem o_nilc (x : AOpd) : aop C lim (.nilc x) ρ st = (match x.ev ρ with
    | .ptr h sz i f => some (.ptr h sz i f, st)
    | .eptr c f => some (.eptr c f, st)
    | _ => none) := rfl
theorem o_eqb (neg : Bool) (x : AOpd) (y : AOpd) : aop C lim (.eqb neg x y) ρ st = (match x.ev ρ, y.ev ρ with
    | .d (.bool a), .d (.bool b) => some (.d (.bool (if neg then !(a == b) else a == b)), st)
    | _, _ => none) := rfl
theorem o_eqs (ks : List Nat) (neg : Bool) (x : AOpd) (y : AOpd) : aop C lim (.eqs ks neg x y) ρ st = (match x.ev ρ, y.ev ρ with
    | .agg cs, .agg ds => match deqL ks cs ds with
      | some r => some (.d (.bool (if neg then !r else r)), st)
      | none => none
    | _, _ => none) := rfl
theorem o_un (op : UnOp) (x : AOpd) : aop C lim (.un op x) ρ st = (match x.ev ρ with
    | .d a => match aun op a with | some z => some (.d z, st) | none => none
    | _ => none) := rfl
theorem o_convs (x : AOpd) : aop C lim (.convs x) ρ st = (match x.ev ρ with
    | .d (.str l) => some (.d (.str l), st)
    | _ => none) := rfl
theorem o_faddr (off : Nat) (x : AOpd) : aop C lim (.faddr off x) ρ st = (match x.ev ρ with
    | .ptr h sz i f => some (.ptr h sz i (f + off), st)
    | .eptr c f => some (.eptr c (f + off), st)
    | _ => none) := rfl
theorem o_fld (off : Nat) (n : Option Nat) (x : AOpd) : aop C lim (.fld off n x) ρ st = (match x.ev ρ with
    | .agg cs => pair2 (rdC cs off n) st
    | _ => none) := rfl
theorem o_iaddr (sz : Nat) (x : AOpd) (i : AOpd) : aop C lim (.iaddr sz x i) ρ st = (pair2 (iadr sz (x.ev ρ) (i.ev ρ)) st) := rfl
theorem o_stri (x : AOpd) (i : AOpd) : aop C lim (.stri x i) ρ st = (match x.ev ρ, aIx (i.ev ρ) with
    | .d (.str l), some n => if 0 ≤ n then (match l[n.toNat]? with | some b => some (.d (.int .u8 b.toNat), st) | none => none) else none
    | _, _ => none) := rfl
theorem o_len (x : AOpd) : aop C lim (.len x) ρ st = (pair2 (alen (x.ev ρ)) st) := rfl
theorem o_slen (x : AOpd) : aop C lim (.slen x) ρ st = (match x.ev ρ with
    | .d (.str l) => some (.d (.int .i64 l.length), st)
    | _ => none) := rfl
theorem o_append (sz : Nat) (x : AOpd) (y : AOpd) : aop C lim (.append sz x y) ρ st = (app st sz (x.ev ρ) (y.ev ρ)) := rfl
theorem o_slice (sz : Nat) (x : AOpd) (lo : Option AOpd) (hi : Option AOpd) : aop C lim (.slice sz x lo hi) ρ st = (pair2 (slc ρ sz (x.ev ρ) lo hi) st) := rfl
theorem o_strs (x : AOpd) (lo : Option AOpd) (hi : Option AOpd) : aop C lim (.strs x lo hi) ρ st = (pair2 (strs ρ (x.ev ρ) lo hi) st) := rfl
theorem o_ext (x : AOpd) (i : Nat) : aop C lim (.ext x i) ρ st = (match x.ev ρ with
    | .tup vs => match vs[i]? with | some v => some (v, st) | none => none
    | _ => none) := rfl
theorem o_mkfn (f : Nat) (caps : List AOpd) : aop C lim (.mkfn f caps) ρ st = (some (.fn f (evL ρ caps), st)) := rfl
theorem o_max (x : AOpd) (y : AOpd) : aop C lim (.max x y) ρ st = (match x.ev ρ, y.ev ρ with
    | .d (.int k a), .d (.int _ b) => some (.d (.int k (if b > a then b else a)), st)
    | _, _ => none) := rfl
theorem o_min (x : AOpd) (y : AOpd) : aop C lim (.min x y) ρ st = (match x.ev ρ, y.ev ρ with
    | .d (.int k a), .d (.int _ b) => some (.d (.int k (if b < a then b else a)), st)
    | _, _ => none) := rfl
theorem o_mksl (sz : Nat) (z : List D) (n : AOpd) (c : AOpd) : aop C lim (.mksl sz z n c) ρ st = (match aIx (n.ev ρ), aIx (c.ev ρ) with
    | some l, some m => if l = m ∧ 0 ≤ l ∧ l ≤ maxApp then some (.hs st.length sz 0 l.toNat, st ++ [.arr sz (List.replicate l.toNat z) true]) else none
    | _, _ => none) := rfl
theorem o_b2s (x : AOpd) : aop C lim (.b2s x) ρ st = (match b2sV st (x.ev ρ) with
    | some l => some (.d (.str l), st)
    | none => none) := rfl
theorem o_pcall (f : AOpd) (args : List AOpd) : aop C lim (.pcall f args) ρ st = (match f.ev ρ with
    | .fn g caps => pair2 (pcal C g (evL ρ args ++ caps)) st
    | _ => none) := rfl
theorem o_lcall (f : AOpd) (args : List AOpd) : aop C lim (.lcall f args) ρ st = (match f.ev ρ with
    | .fn g caps => pair2 (lcal C lim g (evL ρ args ++ caps) st) st
    | _ => none) := rfl
theorem o_call (q : Bool) (ms : List Bool) (f : AOpd) (args : List AOpd) : aop C lim (.call q ms f args) ρ st = (match f.ev ρ with
    | .fn g caps => mcall C q ms g (evL ρ args ++ caps) st
    | _ => none) := rfl
end

/-- Numbers between the two ends are kept as they are. -/
theorem wr_nat {n : Nat} (h : n ≤ 9223372036854775807) : wr (n : Int) = n := wr_id (by omega) (by omega)

section
variable (x y : BitVec 64) (z z' : BitVec 8) (st : St)
@[simp] theorem frz1_int (k : IntKind) (n : Int) : frz1 st (.d (.int k n)) = some (.int k n, st) := rfl
@[simp] theorem brw1_int (k : IntKind) (n : Int) : brw1 st (.d (.int k n)) = some (.d (.int k n), []) := rfl
@[simp] theorem conv1_int (k : IntKind) (n : Int) : conv1 .fz (.d (.int k n)) st = some (.d (.int k n), st) := rfl
@[simp] theorem conv1o_int (q : Nat) (k : IntKind) (n : Int) : conv1 (.ow q) (.d (.int k n)) st = some (.d (.int k n), st) := rfl
@[simp] theorem frz1_bool (b : Bool) : frz1 st (.d (.bool b)) = some (.bool b, st) := rfl
@[simp] theorem brw1_bool (b : Bool) : brw1 st (.d (.bool b)) = some (.d (.bool b), []) := rfl
@[simp] theorem conv1_bool (b : Bool) : conv1 .fz (.d (.bool b)) st = some (.d (.bool b), st) := rfl
@[simp] theorem conv1o_bool (q : Nat) (b : Bool) : conv1 (.ow q) (.d (.bool b)) st = some (.d (.bool b), st) := rfl
@[simp] theorem frz1_str (l : List UInt8) : frz1 st (.d (.str l)) = some (.str l, st) := rfl
@[simp] theorem brw1_str (l : List UInt8) : brw1 st (.d (.str l)) = some (.d (.str l), []) := rfl
@[simp] theorem conv1_str (l : List UInt8) : conv1 .fz (.d (.str l)) st = some (.d (.str l), st) := rfl
@[simp] theorem conv1o_str (q : Nat) (l : List UInt8) : conv1 (.ow q) (.d (.str l)) st = some (.d (.str l), st) := rfl
@[simp] theorem noSl_w (x : BitVec 64) : noSl (.d (.w x)) = true := rfl
@[simp] theorem frz1_w (x : BitVec 64) : frz1 st (.d (.w x)) = some (.w x, st) := rfl
@[simp] theorem brw1_w (x : BitVec 64) : brw1 st (.d (.w x)) = some (.d (.w x), []) := rfl
@[simp] theorem conv1_w (x : BitVec 64) : conv1 .fz (.d (.w x)) st = some (.d (.w x), st) := rfl
@[simp] theorem conv1o_w (q : Nat) (x : BitVec 64) : conv1 (.ow q) (.d (.w x)) st = some (.d (.w x), st) := rfl
@[simp] theorem noSl_u (z : BitVec 8) : noSl (.d (.u z)) = true := rfl
@[simp] theorem frz1_u (z : BitVec 8) : frz1 st (.d (.u z)) = some (.u z, st) := rfl
@[simp] theorem brw1_u (z : BitVec 8) : brw1 st (.d (.u z)) = some (.d (.u z), []) := rfl
@[simp] theorem conv1_u (z : BitVec 8) : conv1 .fz (.d (.u z)) st = some (.d (.u z), st) := rfl
@[simp] theorem conv1o_u (q : Nat) (z : BitVec 8) : conv1 (.ow q) (.d (.u z)) st = some (.d (.u z), st) := rfl
@[simp] theorem frz1_sl (xs : List (List D)) : frz1 st (.d (.sl xs)) = some (.sl xs, st) := rfl
@[simp] theorem brw1_sl (xs : List (List D)) : brw1 st (.d (.sl xs)) = some (.d (.sl xs), []) := rfl
@[simp] theorem conv1_sl (xs : List (List D)) : conv1 .fz (.d (.sl xs)) st = some (.d (.sl xs), st) := rfl
@[simp] theorem conv1o_sl (q : Nat) (xs : List (List D)) : conv1 (.ow q) (.d (.sl xs)) st = some (.d (.sl xs), st) := rfl
@[simp] theorem conv1_keep (v : AV) : conv1 .keep v st = some (v, st) := rfl
@[simp] theorem conv1_nil : conv1 .fz (.d .nil) st = some (.d (.sl []), st) := rfl
@[simp] theorem conv1_fhs (h sz i n : Nat) : conv1 .fz (.hs h sz i n) st = match frz1 st (.hs h sz i n) with | some (x, st1) => some (.d x, st1) | none => none := rfl
@[simp] theorem conv1_ptr (h sz i n : Nat) : conv1 .fz (.ptr h sz i n) st = some (.ptr h sz i n, st) := rfl
@[simp] theorem conv1o_nil (sz : Nat) : conv1 (.ow sz) (.d .nil) st = some (.hs st.length sz 0 0, st ++ [.arr sz [] true]) := rfl
@[simp] theorem conv1o_hs (q h sz i n : Nat) : conv1 (.ow q) (.hs h sz i n) st = some (.hs h sz i n, st) := rfl
@[simp] theorem frz1_nil : frz1 st (.d .nil) = some (.sl [], st) := rfl
@[simp] theorem frz1_hs (h sz i n : Nat) : frz1 st (.hs h sz i n) = match st[h]? with | some (.arr sz' es _) => (if sz' = sz ∧ i + n ≤ es.length then some (.sl ((es.drop i).take n), st.set h (.arr sz' es false)) else none) | _ => none := rfl
@[simp] theorem brw1_nil : brw1 st (.d .nil) = some (.d (.sl []), []) := rfl
@[simp] theorem brw1_ptr (h sz i n : Nat) : brw1 st (.ptr h sz i n) = some (.ptr h sz i n, []) := rfl
@[simp] theorem brw1_fn (f : Nat) (cs : List AV) : brw1 st (.fn f cs) = some (.fn f cs, []) := rfl
@[simp] theorem brw1_hs (h sz i n : Nat) : brw1 st (.hs h sz i n) = match st[h]? with | some (.arr sz' es _) => (if sz' = sz ∧ i + n ≤ es.length then some (.d (.sl ((es.drop i).take n)), [h]) else none) | _ => none := rfl
@[simp] theorem brw_agg (cs : List AV) : brw st (.agg cs) = match brwL st cs with | some (cs', b) => some (.agg cs', b) | none => none := rfl
@[simp] theorem brw_d (d : D) : brw st (.d d) = brw1 st (.d d) := rfl
@[simp] theorem brw_ptr (h sz i n : Nat) : brw st (.ptr h sz i n) = brw1 st (.ptr h sz i n) := rfl
@[simp] theorem brw_hs (h sz i n : Nat) : brw st (.hs h sz i n) = brw1 st (.hs h sz i n) := rfl
@[simp] theorem brw_fn (f : Nat) (cs : List AV) : brw st (.fn f cs) = brw1 st (.fn f cs) := rfl
@[simp] theorem convV_agg (cvs : List CV) (cs : List AV) : convV cvs (.agg cs) st = match convL cvs cs st with | some (cs', st1) => some (.agg cs', st1) | none => none := rfl
@[simp] theorem convV_d (cvs : List CV) (d : D) : convV cvs (.d d) st = conv1 (cvs.headD .fz) (.d d) st := rfl
@[simp] theorem convV_hs (cvs : List CV) (h sz i n : Nat) : convV cvs (.hs h sz i n) st = conv1 (cvs.headD .fz) (.hs h sz i n) st := rfl
@[simp] theorem convV_ptr (cvs : List CV) (h sz i n : Nat) : convV cvs (.ptr h sz i n) st = conv1 (cvs.headD .fz) (.ptr h sz i n) st := rfl
@[simp] theorem oneOf_one (v : AV) : oneOf [v] = v := rfl
@[simp] theorem oneOf_two (v u : AV) (l : List AV) : oneOf (v :: u :: l) = .tup (v :: u :: l) := rfl
@[simp] theorem oneOf_nil : oneOf [] = .tup [] := rfl
@[simp] theorem lend_int (L : Nat) (k : IntKind) (n : Int) : lend L st (.d (.int k n)) = some (.d (.int k n)) := by first | rfl | simp [lend, D.w, D.u]
@[simp] theorem lend_bool (L : Nat) (b : Bool) : lend L st (.d (.bool b)) = some (.d (.bool b)) := by first | rfl | simp [lend, D.w, D.u]
@[simp] theorem lend_str (L : Nat) (l : List UInt8) : lend L st (.d (.str l)) = some (.d (.str l)) := by first | rfl | simp [lend, D.w, D.u]
@[simp] theorem lend_w (L : Nat) (x : BitVec 64) : lend L st (.d (.w x)) = some (.d (.w x)) := by first | rfl | simp [lend, D.w, D.u]
@[simp] theorem lend_u (L : Nat) (z : BitVec 8) : lend L st (.d (.u z)) = some (.d (.u z)) := by first | rfl | simp [lend, D.w, D.u]
@[simp] theorem lend_sl (L : Nat) (xs : List (List D)) : lend L st (.d (.sl xs)) = some (.d (.sl xs)) := by first | rfl | simp [lend, D.w, D.u]
@[simp] theorem lend_nil (L : Nat) : lend L st (.d .nil) = some (.d (.sl [])) := by simp [lend]
@[simp] theorem lend_hs (L h sz i n : Nat) : lend L st (.hs h sz i n) = lendH L st h sz i n := by simp only [lend]
@[simp] theorem lend_ptr (L h sz i n : Nat) : lend L st (.ptr h sz i n) = lendP L st h sz i n := by simp only [lend]
@[simp] theorem lend_eptr (L f : Nat) (c : List D) : lend L st (.eptr c f) = some (.eptr c f) := by simp only [lend]
@[simp] theorem lend_fn (L f : Nat) (cs : List AV) : lend L st (.fn f cs) = match lendL L st cs with | some cs' => some (.fn f cs') | none => none := by simp only [lend]; cases lendL L st cs <;> rfl
@[simp] theorem lend_agg (L : Nat) (cs : List AV) : lend L st (.agg cs) = match lendL L st cs with | some cs' => some (.agg cs') | none => none := by simp only [lend]; cases lendL L st cs <;> rfl
@[simp] theorem lendD_d (L : Nat) (x : D) : lendD L st (.d x) = some x := rfl
@[simp] theorem lendD_hs (L h sz i n : Nat) : lendD L st (.hs h sz i n) = if h < L then (match st[h]? with | some (.arr sz' es _) => if sz' = sz ∧ i + n ≤ es.length then some (.sl ((es.drop i).take n)) else none | _ => none) else none := rfl
def hOfO : AO → List Nat
  | .box cs => hOfL cs
  | _ => []
@[simp] theorem hOfO_box (cs : List AV) : hOfO (.box cs) = hOfL cs := rfl
@[simp] theorem hOfO_arr (sz : Nat) (es : List (List D)) (wr : Bool) : hOfO (.arr sz es wr) = [] := rfl
@[simp] theorem hOfO_dead : hOfO .dead = [] := rfl
@[simp] theorem boxH_o (h : Nat) : boxH st h = match st[h]? with | some o => hOfO o | none => [] := by
  unfold boxH
  cases st[h]? with
  | none => rfl
  | some o => cases o <;> rfl
@[simp] theorem renOo_box (g : Nat → Option Nat) (cs : List AV) : renO g (.box cs) = .box (renL g cs) := rfl
@[simp] theorem renOo_arr (g : Nat → Option Nat) (sz : Nat) (es : List (List D)) (wr : Bool) : renO g (.arr sz es wr) = .arr sz es wr := rfl
@[simp] theorem renOo_dead (g : Nat → Option Nat) : renO g .dead = .dead := rfl
@[simp] theorem w_inj : D.w x = D.w y ↔ x = y := by
  constructor
  · intro h
    have : (x.toNat : Int) = y.toNat := by injection h
    exact BitVec.eq_of_toNat_eq (by omega)
  · rintro rfl; rfl
@[simp] theorem u_inj : D.u z = D.u z' ↔ z = z' := by
  constructor
  · intro h
    have : (z.toNat : Int) = z'.toNat := by injection h
    exact BitVec.eq_of_toNat_eq (by omega)
  · rintro rfl; rfl
@[simp] theorem noSl_int (k : IntKind) (n : Int) : noSl (.d (.int k n)) = true := rfl
@[simp] theorem noSl_bool (b : Bool) : noSl (.d (.bool b)) = true := rfl
@[simp] theorem noSl_str (l : List UInt8) : noSl (.d (.str l)) = true := rfl
@[simp] theorem noSl_sl (xs : List (List D)) : noSl (.d (.sl xs)) = false := rfl
@[simp] theorem noSl_hs (h sz i n : Nat) : noSl (.hs h sz i n) = false := rfl
@[simp] theorem noSl_ptr (h sz i n : Nat) : noSl (.ptr h sz i n) = false := rfl
@[simp] theorem noSl_agg (cs : List AV) : noSl (.agg cs) = noSlL cs := rfl
@[simp] theorem noSl_tup (cs : List AV) : noSl (.tup cs) = noSlL cs := rfl
@[simp] theorem noSlL_nil : noSlL [] = true := rfl
@[simp] theorem noSlL_cons (v : AV) (vs : List AV) : noSlL (v :: vs) = (noSl v && noSlL vs) := rfl
@[simp] theorem aIx_int (k : IntKind) (n : Int) : aIx (.d (.int k n)) = some n := rfl
@[simp] theorem aIx_u : aIx (.d (.u z)) = some (z.toNat : Int) := rfl
@[simp] theorem deqL_nil : deqL [] [] [] = some true := rfl
@[simp] theorem deqL_int (k : IntKind) (a b : Int) (ks : List Nat) (xs ys : List AV) : deqL (0 :: ks) (.d (.int k a) :: xs) (.d (.int k b) :: ys) = match deqL ks xs ys with | some r => some (a == b && r) | none => none := by
  simp only [deqL, if_true]; cases deqL ks xs ys <;> rfl
@[simp] theorem deqL_bool (a b : Bool) (ks : List Nat) (xs ys : List AV) : deqL (1 :: ks) (.d (.bool a) :: xs) (.d (.bool b) :: ys) = match deqL ks xs ys with | some r => some (a == b && r) | none => none := rfl
@[simp] theorem deqL_str (a b : List UInt8) (ks : List Nat) (xs ys : List AV) : deqL (2 :: ks) (.d (.str a) :: xs) (.d (.str b) :: ys) = match deqL ks xs ys with | some r => some (a == b && r) | none => none := rfl
@[simp] theorem aIx_w : aIx (.d (.w x)) = some (x.toNat : Int) := rfl
@[simp] theorem deqL_w (ks : List Nat) (xs ys : List AV) : deqL (0 :: ks) (.d (.w x) :: xs) (.d (.w y) :: ys) = match deqL ks xs ys with | some r => some (x == y && r) | none => none := by
  have : ((x.toNat : Int) == (y.toNat : Int)) = (x == y) := by
    by_cases h : x = y
    · subst h; simp
    · have : (x.toNat : Int) ≠ y.toNat := fun e => h (BitVec.eq_of_toNat_eq (by omega))
      rw [beq_eq_false_iff_ne.2 h, beq_eq_false_iff_ne.2 this]
  simp only [D.w, deqL, if_true, this]
  cases deqL ks xs ys <;> rfl
@[simp] theorem o_max_w (C : Orc) (L : Nat) (ρ : Nat → AV) (p q : AOpd) (hp : p.ev ρ = .d (.w x)) (hq : q.ev ρ = .d (.w y)) : aop C L (.max p q) ρ st = some (.d (.w (if x < y then y else x)), st) := by
  simp only [aop, hp, hq, D.w, gt_iff_lt, Int.ofNat_lt, ← BitVec.lt_def]
  split <;> rfl
@[simp] theorem o_min_w (C : Orc) (L : Nat) (ρ : Nat → AV) (p q : AOpd) (hp : p.ev ρ = .d (.w x)) (hq : q.ev ρ = .d (.w y)) : aop C L (.min p q) ρ st = some (.d (.w (if y < x then y else x)), st) := by
  simp only [aop, hp, hq, D.w, Int.ofNat_lt, ← BitVec.lt_def]
  split <;> rfl
end
/-- A run that ends, with what holds of its end. -/
def Ev {α : Type} (o : Option α) (Q : α → Prop) : Prop := ∃ r, o = some r ∧ Q r
@[simp] theorem Ev_some {α : Type} (r : α) (Q : α → Prop) : Ev (some r) Q ↔ Q r := by simp [Ev]
theorem Ev.mono {α : Type} {o : Option α} {Q Q' : α → Prop} (h : Ev o Q) (hq : ∀ r, Q r → Q' r) : Ev o Q' := by
  obtain ⟨r, h1, h2⟩ := h; exact ⟨r, h1, hq r h2⟩
attribute [simp] go_skip go_nil go_ret go_seq go_block go_inBlock go_exit go_loop go_kp go_cond go_reg aops_cons aops_guard aops_nil o_mv o_bin o_conv ev_t ev_k ev_f put_eget put_none eget_cons eget_nil dbin_d pair2_some pair2_none keep aexit
attribute [simp] o_pick o_alloc o_box o_build o_bslice o_load o_store o_nilc o_eqb o_eqs o_un o_convs o_faddr o_fld o_iaddr o_stri o_len o_slen o_append o_slice o_strs o_ext o_mkfn o_mksl o_b2s o_pcall o_lcall o_call
attribute [simp] w_add w_sub w_mul w_quo w_rem w_and w_or w_xor w_not w_neg w_eql w_neq w_lss w_leq w_gtr w_geq w_shl w_shr w_shli w_shri i_add i_sub i_mul i_quo i_rem i_eql i_neq i_lss i_leq i_gtr i_geq i_neg b_not cnv_wi cnv_iw cnv_ww cnv_ii cnv_iu cnv_ui
attribute [simp] head headV gc reach ddup boxHs pickO hOfL hOf zipE renL ren renS idx evL args resV convVs convL
attribute [simp] lendC lendP lendH lendL lcal
attribute [simp] List.take_of_length_le
attribute [simp] pcal brwA brwL setAll frzAll back rd rdC rdD alen slc bnds orV AM.strs iadr wrt frzL fillC fillE app elemsOf AV.cells sol solL okSz
end Go.Proofs.Ytghhjbbildemiaa.AM
