/-
Whole functions: a run of the machine is a call of the model. Calls and runs without a bound: what they unfold to. Running the machine by rewriting: one lemma for each step, and operations on words. Running the machine by rewriting: the steps. The lemmas by which simp runs the machine. The functions' code for the machine, printed by gen.py.
Conditions: none beyond those that each theorem states.
-/
import Derived.Test.YtplgdddfhjpojaaGreatPt2
set_option linter.all false
namespace Go.Proofs.YtplgdddfhjpojaaGreat.AM
open Go

def mAC (P : Program) (Φ : Nat → FuncId) (N : Nat) : AC → Code → Bool
  | .skip, .skip => true
  | .reg dr xs _, .region _ ops draw => mAIs P Φ N ops xs ops.toList && (dr == draw) && (!dr || (drawOk ops.toList xs && P.follows .mixedOrders))
  | .seq a b, .seq c d => mAC P Φ N a c && mAC P Φ N b d
  | .cond c a b, .cond c' a' b' => mOpd Φ c c' && mAC P Φ N a a' && mAC P Φ N b b'
  | .block id c, .block id' c' => id == id' && mAC P Φ N c c'
  | .kp _ a, c => mAC P Φ N a c
  | .loop _ c, .loop c' => mAC P Φ N c c'
  | .exit id, .exit id' => id == id'
  | .ret, .ret => true
  | .refuse, _ => true
  | _, _ => false

def mRes (P : Program) : List ARes → List ResultVar → Bool
  | [], [] => true
  | .t n :: rs, .tmp m :: qs => n == m && mRes P rs qs
  | .cell n k :: rs, .cell m t :: qs => n == m && mN P t k && mRes P rs qs
  | _, _ => false

def mFunc (P : Program) (Φ : Nat → FuncId) (g : FuncId) (F : AFunc) : Bool :=
  match P.funcs[g]? with
  | some fn => fn.name != "runtime.NumGoroutine" && decide (F.np ≤ fn.ntmps) && (match fn.body with | some c => mAC P Φ fn.ntmps F.body c | none => false) && mRes P F.res fn.results.toList
  | none => false

/-- What is left to do on either side. -/
inductive IR (P : Program) (Φ : Nat → FuncId) (N : Nat) : List AT → List Item → Prop
  | nil : IR P Φ N [] []
  | code {x : AC} {c : Code} {K : List AT} {K' : List Item} (h : mAC P Φ N x c = true) (hK : IR P Φ N K K') : IR P Φ N (.code x :: K) (.code c :: K')
  | inBlock {id : Nat} {K : List AT} {K' : List Item} (hK : IR P Φ N K K') : IR P Φ N (.inBlock id :: K) (.inBlock id :: K')
  | inLoop {kp : List (Nat × CV)} {x : AC} {c : Code} {K : List AT} {K' : List Item} (h : mAC P Φ N x c = true) (hK : IR P Φ N K K') : IR P Φ N (.inLoop kp x :: K) (.inLoop c :: K')

section
variable {P : Program} {Φ : Nat → FuncId} {N : Nat}

theorem IR.exit {id : Nat} {K K1 : List AT} {K' : List Item} (h : IR P Φ N K K') (he : aexit id K = some K1) : ∃ K1', exitTo id K' = some K1' ∧ IR P Φ N K1 K1' := by
  induction h with
  | nil => simp [aexit] at he
  | code h hK ih =>
    simp only [aexit] at he
    obtain ⟨K1', h1, h2⟩ := ih he
    exact ⟨K1', by simpa [exitTo] using h1, h2⟩
  | inBlock hK ih =>
    rename_i id' K K'
    simp only [aexit] at he
    by_cases e : id' = id
    · rw [if_pos e] at he; cases he
      exact ⟨K', by simp [exitTo, e], hK⟩
    · rw [if_neg e] at he
      obtain ⟨K1', h1, h2⟩ := ih he
      exact ⟨K1', by simp [exitTo, e]; exact h1, h2⟩
  | inLoop h hK ih =>
    simp only [aexit] at he
    obtain ⟨K1', h1, h2⟩ := ih he
    exact ⟨K1', by simpa [exitTo] using h1, h2⟩

variable {w w' : World} {Z Z' : Nat → Nat} {σ σ' : Nat → Option (Nat × Nat)} {st st' st1 : St} {a : Act} {C : Orc}

theorem keep_get (ρ : Nat → AV) : ∀ (kp : List Nat) (t : Nat), eget (keep ρ kp) t = ρ t ∨ eget (keep ρ kp) t = .undef
  | [], t => .inr rfl
  | k :: kp, t => by
    simp only [keep, eget]
    by_cases e : k = t
    · subst e; simp
    · simp only [e, if_false]; exact keep_get ρ kp t

theorem ERel.keep {ρ : Nat → AV} (h : ERel Φ w Z σ st ρ a) (kp : List Nat) : ERel Φ w Z σ st (eget (AM.keep ρ kp)) a := by
  intro t
  rcases keep_get ρ kp t with e | e
  · rw [e]; exact h t
  · rw [e]; exact .undef _

theorem headV_sound {e : Env} (hE : ∀ t, VRel Φ w Z σ st (eget e t) (a.tmps.getD t undef)) :
    ∀ {kp : List (Nat × CV)} {st0 st1 : St} {vs : List AV} {Z0 : Nat → Nat} {σ0 : Nat → Option (Nat × Nat)}, Sim Φ w Z0 σ0 st0 → Ext st.length w Z σ st w Z0 σ0 st0 → st.length ≤ st0.length → headV e kp st0 = some (vs, st1) →
    ∃ Z' σ', Sim Φ w Z' σ' st1 ∧ VRels Φ w Z' σ' st1 vs (kp.map fun p => a.tmps.getD p.1 undef) ∧ Ext st0.length w Z0 σ0 st0 w Z' σ' st1 ∧ st0.length ≤ st1.length
  | [], st0, st1, vs, Z0, σ0, S, E, hl, h => by
    simp [headV] at h; obtain ⟨rfl, rfl⟩ := h
    exact ⟨Z0, σ0, S, .nil, Ext.refl _ _ _ _ _, Nat.le_refl _⟩
  | (t, cv) :: kp, st0, st1, vs, Z0, σ0, S, E, hl, h => by
    simp only [headV] at h
    cases h1 : conv1 cv (eget e t) st0 with
    | none => simp only [h1] at h; cases h
    | some r =>
      obtain ⟨v, st2⟩ := r
      simp only [h1] at h
      cases h2 : headV e kp st2 with
      | none => simp only [h2] at h; cases h
      | some r2 =>
        obtain ⟨vs2, st3⟩ := r2
        simp only [h2] at h
        cases h
        obtain ⟨Z1, σ1, S1, hv1, E1, l1⟩ := conv1_sound S h1 ((hE t).mono E)
        obtain ⟨Z2, σ2, S2, hv2, E2, l2⟩ := headV_sound hE S1 (E.trans (E1.le hl)) (Nat.le_trans hl l1) h2
        exact ⟨Z2, σ2, S2, .cons (hv1.mono E2) hv2, E1.trans (E2.le l1), Nat.le_trans l1 l2⟩

theorem zipE_rel : ∀ {kp : List (Nat × CV)} {vs : List AV}, VRels Φ w Z σ st vs (kp.map fun p => a.tmps.getD p.1 undef) → ∀ t, VRel Φ w Z σ st (eget (zipE kp vs) t) (a.tmps.getD t undef)
  | [], vs, h, t => by
    have : zipE [] vs = [] := by cases vs <;> rfl
    rw [this]; exact .undef _
  | (k, cv) :: kp, vs, h, t => by
    cases vs with
    | nil => exact .undef _
    | cons v vs =>
      obtain ⟨x, xs, e1, h1, h2⟩ := VRels.cons_inv h
      simp only [List.map_cons, List.cons.injEq] at e1
      obtain ⟨rfl, rfl⟩ := e1
      simp only [zipE, eget]
      by_cases e : k = t
      · subst e; simp only [if_true]; exact h1
      · simp only [e, if_false]; exact zipE_rel h2 t

theorem head_sound {m : Nat} {kp : List (Nat × CV)} {e e1 : Env} (hm : m ≤ st.length) (hF : FRel Φ N w Z σ st (eget e) a) (h : head m kp e st = some (e1, st1)) :
    ∃ Z' σ', FRel Φ N w Z' σ' st1 (eget e1) a ∧ Ext m w Z σ st w Z' σ' st1 ∧ m ≤ st1.length := by
  unfold head at h
  cases h1 : headV e kp st with
  | none => simp only [h1] at h; cases h
  | some r =>
    obtain ⟨vs, st2⟩ := r
    simp only [h1] at h
    cases h2 : gc m vs st2 with
    | none => simp only [h2] at h; cases h
    | some r2 =>
      obtain ⟨vs', st3⟩ := r2
      simp only [h2] at h
      cases h
      obtain ⟨Z1, σ1, S1, hv1, E1, l1⟩ := headV_sound (e := e) hF.env hF.sim (Ext.refl _ _ _ _ _) (Nat.le_refl _) h1
      obtain ⟨σ2, S2, hv2, E2, l2⟩ := gc_sound S1 h2 hv1
      exact ⟨Z1, σ2, ⟨S2, zipE_rel hv2, hF.size, hF.defers⟩, (E1.le hm).trans E2, l2⟩

/-- A region, whichever way its order is. -/
theorem reg_sound (hC : COk P Φ C) {dr : Bool} {xs : List AI} {kp : List Nat} {id : Nat} {ops : Array Oper} {draw : Bool} (hm : mAC P Φ N (.reg dr xs kp) (.region id ops draw) = true) {e : Env} {ρ1 : Nat → AV}
    (hF : FRel Φ N w Z σ st (eget e) a) (h : aops C (if dr then some st.length else none) xs (eget e) st = some (ρ1, st1)) :
    (Code.region id ops draw).wp P (fun ex a' w' => ex = .normal ∧ ∃ Z' σ', FRel Φ N w' Z' σ' st1 ρ1 a' ∧ Ext st.length w Z σ st w' Z' σ' st1 ∧ st.length ≤ st1.length) a w := by
  simp only [mAC, Bool.and_eq_true, beq_iff_eq, Bool.or_eq_true, Bool.not_eq_true'] at hm
  obtain ⟨⟨hxs, rfl⟩, hdr⟩ := hm
  obtain ⟨hlen, hget⟩ := mAIs_get hxs
  cases dr with
  | false =>
    simp only [Bool.false_eq_true, if_false] at h
    refine wp_region ?_
    have := aops_wp (ops := ops) (Q := fun ex a' w' => ex = .normal ∧ ∃ Z' σ', FRel Φ N w' Z' σ' st1 ρ1 a' ∧ Ext st.length w Z σ st w' Z' σ' st1 ∧ st.length ≤ st1.length) hC (fin := fun _ _ _ _ => True) (k := 0)
      (fun i x hx => by
        have hi : i < ops.toList.length := by rw [← hlen]; exact lt_of_getElem? hx
        have ho : ops.toList[i]? = some (ops.toList[i]'hi) := List.getElem?_eq_getElem hi
        exact ⟨_, by rw [Nat.zero_add, ← Array.getElem?_toList]; exact ho, hget i x _ hx ho⟩) hF h (fun a' w' Z' σ' g1 g2 g3 => ⟨rfl, Z', σ', g1, g2, g3⟩)
    rw [List.range_eq_range', ← Array.length_toList, ← hlen]
    exact this
  | true =>
    simp only [if_true] at h
    have hdo : drawOk ops.toList xs = true ∧ P.follows .mixedOrders = true := by
      rcases hdr with q | q
      · cases q
      · exact q
    obtain ⟨hdo, hmix⟩ := hdo
    unfold drawOk at hdo
    simp only [Bool.and_eq_true] at hdo
    refine wp_region_any hmix ?_
    have Ed : Ext st.length w Z σ st { w with drawn := w.drawn + 1 } Z σ st := ext_heap (w := w) (w' := { w with drawn := w.drawn + 1 }) rfl rfl rfl _
    have hF' : FRel Φ N { w with drawn := w.drawn + 1 } Z σ st (eget e) a := ⟨Sim.heap (w := w) (w' := { w with drawn := w.drawn + 1 }) rfl rfl rfl hF.sim, fun t => (hF.env t).mono Ed, hF.size, hF.defers⟩
    rw [aidx_range (xs := xs) (k := 0) (fun i => by rw [Nat.zero_add])] at h
    rw [← List.range_eq_range'] at h
    have hsz : xs.length = ops.size := by rw [hlen]; simp
    have := any_wp (Q := fun ex a' w' => ex = .normal ∧ ∃ Z' σ', FRel Φ N w' Z' σ' st1 ρ1 a' ∧ Ext st.length w Z σ st w' Z' σ' st1 ∧ st.length ≤ st1.length) hC hxs hdo.1 hdo.2 (List.range xs.length) (Array.replicate ops.size false)
      (by exact List.pairwise_lt_range) (fun i => by
        rw [List.mem_range, hsz]
        constructor
        · intro hi; exact ⟨hi, by simp [hi]⟩
        · intro hi; exact hi.1) (by simp) (fun k o hk hlk => by simp [Array.getElem?_replicate] at hlk; split at hlk <;> simp at hlk) hF' (Nat.le_refl _) h
      (fun a' w' Z' σ' g1 g2 g3 => ⟨rfl, Z', σ', g1, Ed.trans g2, g3⟩)
    rw [List.length_range, hsz] at this
    exact this

/-- Runs. -/
theorem run_steps (hC : COk P Φ C) {m : Nat} : ∀ (n : Nat) {K : List AT} {K' : List Item} {e e' : Env} {st st' : St} {w : World} {Z : Nat → Nat} {σ : Nat → Option (Nat × Nat)} {a : Act},
    runK C m n K e st = some (e', st') → IR P Φ N K K' → FRel Φ N w Z σ st (eget e) a → m ≤ st.length → ∀ (b : Frame) (cs : List Frame),
    ∃ a' w' Z' σ' todo, Steps P (lone (b.at a K') cs w) (lone { b.at a' todo with mode := .returning } cs w') ∧ FRel Φ N w' Z' σ' st' (eget e') a' ∧ Ext m w Z σ st w' Z' σ' st' ∧ m ≤ st'.length
  | 0, K, K', e, e', st, st', w, Z, σ, a, h, _, _, _ => by simp [runK] at h
  | n + 1, K, K', e, e', st, st', w, Z, σ, a, h, hI, hF, hm => by
    intro b cs
    simp only [runK] at h
    have go : ∀ {K1 : List AT} {K1' : List Item} {e1 : Env} {st1 : St} {a1 : Act} {w1 : World} {Z1 : Nat → Nat} {σ1 : Nat → Option (Nat × Nat)}, runK C m n K1 e1 st1 = some (e', st') → IR P Φ N K1 K1' →
        FRel Φ N w1 Z1 σ1 st1 (eget e1) a1 → m ≤ st1.length → Ext m w Z σ st w1 Z1 σ1 st1 → Steps P (lone (b.at a K') cs w) (lone (b.at a1 K1') cs w1) →
        ∃ a' w' Z' σ' todo, Steps P (lone (b.at a K') cs w) (lone { b.at a' todo with mode := .returning } cs w') ∧ FRel Φ N w' Z' σ' st' (eget e') a' ∧ Ext m w Z σ st w' Z' σ' st' ∧ m ≤ st'.length := by
      intro K1 K1' e1 st1 a1 w1 Z1 σ1 hr hI1 hF1 hm1 hE1 hst
      obtain ⟨a', w', Z', σ', todo, g1, g2, g3, g4⟩ := run_steps hC n hr hI1 hF1 hm1 b cs
      exact ⟨a', w', Z', σ', todo, hst.trans g1, g2, hE1.trans g3, g4⟩
    cases hI with
    | nil =>
      simp only [nx] at h
      cases h
      exact ⟨a, w, Z, σ, [], .one step_end, hF, Ext.refl _ _ _ _ _, hm⟩
    | inBlock hK =>
      simp only [nx] at h
      exact go h hK hF hm (Ext.refl _ _ _ _ _) (.one step_inBlock)
    | inLoop hx hK =>
      rename_i kp x c K K'
      simp only [nx] at h
      cases hh : head m kp e st with
      | none => simp [hh] at h
      | some r =>
        obtain ⟨e1, st1⟩ := r
        simp only [hh] at h
        obtain ⟨Z1, σ1, F1, E1, l1⟩ := head_sound hm hF hh
        exact go h (.code hx (.inLoop hx hK)) F1 l1 E1 (.one step_inLoop)
    | code hx hK =>
      rename_i x c K K'
      cases x with
      | skip =>
        cases c <;> simp [mAC] at hx
        simp only [nx] at h
        exact go h hK hF hm (Ext.refl _ _ _ _ _) (.one step_skip)
      | reg dr xs kp =>
        cases c <;> try (simp [mAC] at hx; done)
        rename_i id ops draw
        simp only [nx] at h
        cases ha : aops C (if dr then some st.length else none) xs (eget e) st with
        | none => simp [ha] at h
        | some r =>
          obtain ⟨ρ1, st1⟩ := r
          simp only [ha] at h
          obtain ⟨ex, a1, w1, ⟨rfl, Z1, σ1, F1, E1, l1⟩, harr⟩ := reg_sound hC hx hF ha b K' cs
          exact go h hK ⟨F1.sim, F1.env.keep kp, F1.size, F1.defers⟩ (Nat.le_trans hm l1) (E1.le hm) harr
      | seq x y =>
        cases c <;> simp [mAC] at hx
        simp only [nx] at h
        exact go h (.code hx.1 (.code hx.2 hK)) hF hm (Ext.refl _ _ _ _ _) (.one step_seq)
      | cond c' x y =>
        cases c <;> simp [mAC] at hx
        obtain ⟨⟨hc, h1⟩, h2⟩ := hx
        simp only [nx] at h
        have hv := opd hF.env hc
        cases hcv : c'.ev (eget e) with
        | d dv =>
          rw [hcv] at hv
          cases dv with
          | bool t =>
            simp only [hcv] at h
            have hb := hv.bool_inv
            cases t with
            | true =>
              simp only [if_true] at h
              exact go h (.code h1 hK) hF hm (Ext.refl _ _ _ _ _) (.one (step_cond hb))
            | false =>
              simp only [Bool.false_eq_true, if_false] at h
              exact go h (.code h2 hK) hF hm (Ext.refl _ _ _ _ _) (.one (step_cond hb))
          | _ => simp [hcv] at h
        | _ => simp [hcv] at h
      | block id x =>
        cases c <;> simp [mAC] at hx
        obtain ⟨rfl, hx⟩ := hx
        simp only [nx] at h
        exact go h (.code hx (.inBlock hK)) hF hm (Ext.refl _ _ _ _ _) (.one step_block)
      | loop kp x =>
        cases c <;> simp [mAC] at hx
        simp only [nx] at h
        cases hh : head m kp e st with
        | none => simp [hh] at h
        | some r =>
          obtain ⟨e1, st1⟩ := r
          simp only [hh] at h
          obtain ⟨Z1, σ1, F1, E1, l1⟩ := head_sound hm hF hh
          exact go h (.code hx (.inLoop hx hK)) F1 l1 E1 (.one step_loop)
      | kp kp x =>
        simp only [mAC] at hx
        simp only [nx] at h
        cases hh : head m kp e st with
        | none => simp [hh] at h
        | some r =>
          obtain ⟨e1, st1⟩ := r
          simp only [hh] at h
          obtain ⟨Z1, σ1, F1, E1, l1⟩ := head_sound hm hF hh
          exact go h (.code hx hK) F1 l1 E1 (.refl _ _)
      | exit id =>
        cases c <;> simp [mAC] at hx
        subst hx
        simp only [nx] at h
        cases he : aexit id K with
        | none => simp [he] at h
        | some K1 =>
          simp only [he] at h
          obtain ⟨K1', h1, h2⟩ := hK.exit he
          exact go h h2 hF hm (Ext.refl _ _ _ _ _) (.one (step_exit h1))
      | ret =>
        cases c <;> simp [mAC] at hx
        simp only [nx] at h
        cases h
        exact ⟨a, w, Z, σ, _, .one step_ret, hF, Ext.refl _ _ _ _ _, hm⟩
      | refuse => simp [nx] at h

def resOne (tmps : Array Value) : ResultVar → Sem Value
  | .tmp t => pure (tmps.getD t undef)
  | .cell a t => do loadVar t (← asAddr (tmps.getD a undef))

theorem results_run {e : Env} (hF : FRel Φ N w Z σ st (eget e) a) : ∀ {rs : List ARes} {qs : List ResultVar} {vs : List AV}, mRes P rs qs = true → resV e st rs = some vs →
    ∃ xs, (qs.mapM (resOne a.tmps)).run P w = .ok xs w ∧ VRels Φ w Z σ st vs xs
  | [], [], vs, _, h => by
    simp [resV] at h; subst h
    exact ⟨[], rfl, .nil⟩
  | .t n :: rs, .tmp t :: qs, vs, hm, h => by
    simp only [mRes, Bool.and_eq_true, beq_iff_eq] at hm
    obtain ⟨rfl, hm⟩ := hm
    simp only [resV] at h
    cases h1 : resV e st rs with
    | none => simp [h1] at h
    | some vs' =>
      simp [h1] at h
      subst h
      obtain ⟨xs, g1, g2⟩ := results_run hF hm h1
      refine ⟨a.tmps.getD n undef :: xs, ?_, .cons (hF.env n) g2⟩
      simp only [List.mapM_cons, resOne, Sem.run_bind, Sem.run_pure, Result.andThen_ok]
      rw [g1]; rfl
  | .cell n k :: rs, .cell p t :: qs, vs, hm, h => by
    simp only [mRes, Bool.and_eq_true, beq_iff_eq] at hm
    obtain ⟨⟨rfl, hn⟩, hm⟩ := hm
    simp only [resV] at h
    cases hrd : rd st.length st k (eget e n) with
    | none => simp [hrd] at h
    | some v =>
      simp only [hrd] at h
      cases h1 : resV e st rs with
      | none => simp [h1] at h
      | some vs' =>
        simp [h1] at h
        subst h
        obtain ⟨xs, g1, g2⟩ := results_run hF hm h1
        obtain ⟨A, u, k1, k2, k3⟩ := loadVar_run (P := P) hF.sim hn hrd (hF.env n)
        refine ⟨u :: xs, ?_, .cons k3 g2⟩
        simp only [List.mapM_cons, resOne, Sem.run_bind, k1, asAddr, Sem.run_pure, Result.andThen_ok, k2]
        rw [g1]; rfl
  | [], _ :: _, _, hm, _ => by simp [mRes] at hm
  | .t _ :: _, [], _, hm, _ => by simp [mRes] at hm
  | .cell _ _ :: _, [], _, hm, _ => by simp [mRes] at hm
  | .t _ :: _, .cell _ _ :: _, _, hm, _ => by simp [mRes] at hm
  | .cell _ _ :: _, .tmp _ :: _, _, hm, _ => by simp [mRes] at hm

theorem args_get : ∀ (vs : List AV) (n t : Nat), eget (args n vs) t = if n ≤ t then (vs[t - n]?).getD .undef else .undef
  | [], n, t => by simp [args, eget]
  | v :: vs, n, t => by
    simp only [args, eget]
    by_cases e : n = t
    · subst e; simp
    · simp only [e, if_false]
      rw [args_get vs (n + 1) t]
      by_cases h : n ≤ t
      · rw [if_pos (by omega), if_pos h, show t - n = (t - (n + 1)) + 1 by omega]; simp
      · rw [if_neg (by omega), if_neg h]

/-- Every function of the table is the program's function. -/
def TOk (P : Program) (Φ : Nat → FuncId) (T : Nat → Option AFunc) : Prop := ∀ f F, T f = some F → mFunc P Φ (Φ f) F = true

theorem callFunc_enter {g : FuncId} {fn : Func} (hf : P.funcs[g]? = some fn) (hn : (fn.name != "runtime.NumGoroutine") = true) (hb : fn.body.isSome = true) (xs : Array Value) (w : World) : (callFunc g xs).run P w = .ok (.enter g xs) w := by
  have h1 : (fn.name == "runtime.NumGoroutine") = false := by simpa [bne] using hn
  have h2 : fn.body.isNone = false := by cases h : fn.body <;> simp_all
  simp only [callFunc, Sem.run_bind, run_program, Result.andThen_ok, hf, h1, h2, Bool.false_eq_true, if_false, Sem.run_pure]

theorem callK_ok {T : Nat → Option AFunc} {X : Orc} (hT : TOk P Φ T) (hX : COk P Φ X) : ∀ n, COk P Φ (callK T X n)
  | 0 => hX
  | n + 1 => by
    have ih := callK_ok hT hX n
    intro f vs st v st' h w Z σ xs S hv
    simp only [callK] at h
    cases hx : X f vs st with
    | some r =>
      simp only [hx] at h
      cases h
      exact hX f vs st v st' hx w Z σ xs S hv
    | none =>
      simp only [hx] at h
      cases hF : T f with
      | none => simp [hF] at h
      | some F =>
        simp only [hF] at h
        split at h
        · rename_i hnp
          cases hr : runK (callK T X n) st.length n [.code F.body] (args 0 vs) st with
          | none => simp [hr] at h
          | some r =>
            obtain ⟨e, st1⟩ := r
            simp only [hr] at h
            have hmf := hT f F hF
            unfold mFunc at hmf
            cases hfn : P.funcs[Φ f]? with
            | none => simp [hfn] at hmf
            | some fn =>
              simp only [hfn, Bool.and_eq_true] at hmf
              obtain ⟨⟨⟨h1, h2⟩, h3⟩, h4⟩ := hmf
              cases hb : fn.body with
              | none => simp [hb] at h3
              | some c =>
                simp only [hb] at h3
                have hnt : F.np ≤ fn.ntmps := of_decide_eq_true h2
                refine .inl ⟨callFunc_enter hfn h1 (by simp [hb]) _ _, fun cs => ?_⟩
                have hxl : xs.length = vs.length := hv.1
                let a0 : Act := { tmps := xs.toArray ++ Array.replicate (fn.ntmps - xs.toArray.size) undef, defers := [] }
                have hF0 : FRel Φ fn.ntmps w Z σ st (eget (args 0 vs)) a0 := by
                  refine ⟨S, fun t => ?_, by simp [a0]; omega, rfl⟩
                  rw [args_get]
                  simp only [Nat.zero_le, if_true, Nat.sub_zero]
                  by_cases ht : t < vs.length
                  · have e1 : vs[t]? = some (vs[t]'ht) := List.getElem?_eq_getElem ht
                    have e2 : xs[t]? = some (xs[t]'(by omega)) := List.getElem?_eq_getElem (by omega)
                    rw [e1]
                    have e3 : a0.tmps.getD t undef = xs[t]'(by omega) := by
                      simp only [a0, Array.getD_eq_getD_getElem?]
                      rw [Array.getElem?_append_left (by simpa using (by omega : t < xs.length))]
                      simp [e2]
                    rw [e3]
                    exact hv.2 t _ _ e1 e2
                  · rw [List.getElem?_eq_none (by omega)]; exact .undef _
                let b : Frame := { (default : Frame) with fn := Φ f, kind := .normal }
                have henter : Frame.enter P (Φ f) xs.toArray .normal = b.at a0 [.code c] := by
                  simp [Frame.enter, Frame.at, hfn, hb, b, a0]
                obtain ⟨a', w', Z', σ', todo, g1, g2, g3, g4⟩ := run_steps ih n hr (.code h3 .nil) hF0 (Nat.le_refl _) b cs
                rw [← henter] at g1
                -- the results
                unfold fin at h
                cases hrv : resV e st1 F.res with
                | none => simp [hrv] at h
                | some vs1 =>
                  simp only [hrv] at h
                  cases hcv : convVs F.cv vs1 st1 with
                  | none => simp [hcv] at h
                  | some r2 =>
                    obtain ⟨vs2, st2⟩ := r2
                    simp only [hcv] at h
                    cases hgc : gc st.length vs2 st2 with
                    | none => simp [hgc] at h
                    | some r3 =>
                      obtain ⟨vs3, st3⟩ := r3
                      simp only [hgc] at h
                      cases h
                      obtain ⟨ys, k1, k2⟩ := results_run (P := P) g2 h4 hrv
                      obtain ⟨Z2, σ2, S2, hv2, E2, l2⟩ := convVs_sound g2.sim hcv k2
                      obtain ⟨σ3, S3, hv3, E3, l3⟩ := gc_sound S2 hgc hv2
                      have hE : Ext st.length w Z σ st w' Z2 σ3 st' := g3.trans ((E2.le g4).trans E3)
                      have hres : (results fn a'.tmps).run P w' = .ok (if h : ys.toArray.size = 1 then ys.toArray[0] else .tuple ys.toArray) w' := by
                        have e1 : results fn a'.tmps = (do let vs ← fn.results.mapM (resOne a'.tmps); pure (if h : vs.size = 1 then vs[0] else .tuple vs)) := rfl
                        rw [e1, Array.mapM_eq_mapM_toList]
                        simp only [Sem.run_bind, Sem.run_map, k1, Result.andThen_ok, Sem.run_pure]
                      refine ⟨.returned (if h : ys.toArray.size = 1 then ys.toArray[0] else .tuple ys.toArray), w', { b.at a' todo with mode := .returning }, ⟨_, rfl, Z2, σ3, S3, ?_, hE⟩, g1, rfl, rfl, g2.defers, rfl, fn, hfn, hres⟩
                      -- one result, or a tuple
                      by_cases h1r : ys.length = 1
                      · match ys, vs3, hv3, h1r with
                        | [y], vs3, hv3, _ =>
                          match vs3, hv3 with
                          | [], hv3 => exact absurd hv3.1 (by simp)
                          | [v3], hv3 => simpa [oneOf] using hv3.2 0 v3 y rfl rfl
                          | _ :: _ :: _, hv3 => exact absurd hv3.1 (by simp)
                      · rw [dif_neg (by simpa using h1r)]
                        have : oneOf vs3 = .tup vs3 := by
                          match vs3, hv3 with
                          | [], _ => rfl
                          | [v3], hv3 => exact absurd hv3.1.symm (by simp; omega)
                          | _ :: _ :: _, _ => rfl
                        rw [this]
                        exact .tup (by simpa using hv3.1) (fun i c y q1 q2 => hv3.2 i c y q1 (by simpa using q2))
        · cases h

end
end Go.Proofs.YtplgdddfhjpojaaGreat.AM

namespace Go.Proofs.YtplgdddfhjpojaaGreat.AM
open Go

/-- More answers. -/
def OLt (C C' : Orc) : Prop := ∀ f vs st r, C f vs st = some r → C' f vs st = some r

/-- A family that grows, and what it grows to. -/
structure Grows (Cn : Nat → Orc) (C : Orc) : Prop where
  mono : ∀ n, OLt (Cn n) (Cn (n + 1))
  up : ∀ n, OLt (Cn n) C
  lim : ∀ f vs st r, C f vs st = some r → ∃ n, Cn n f vs st = some r

theorem Grows.le {Cn : Nat → Orc} {C : Orc} (h : Grows Cn C) {n m : Nat} (hl : n ≤ m) : OLt (Cn n) (Cn m) := by
  induction hl with
  | refl => exact fun _ _ _ _ h => h
  | step _ ih => exact fun f vs st r hr => h.mono _ _ _ _ _ (ih f vs st r hr)

theorem mcall_mono {C C' : Orc} (h : OLt C C') {q : Bool} {ms : List Bool} {f : Nat} {vs : List AV} {st : St} {r : AV × St} (hr : mcall C q ms f vs st = some r) : mcall C' q ms f vs st = some r := by
  unfold mcall at hr ⊢
  cases hb : brwA st ms vs with
  | none => simp only [hb] at hr; cases hr
  | some p =>
    obtain ⟨as, bl⟩ := p
    simp only [hb] at hr ⊢
    cases ho : reach (frzAll st bl) (hOfL as) with
    | nil =>
      simp only [ho] at hr ⊢
      cases hc : C f (renL (idx []) as) [] with
      | none => simp only [hc] at hr; cases hr
      | some y => simp only [hc] at hr; simp only [h _ _ _ _ hc]; exact hr
    | cons h0 t =>
      simp only [ho] at hr ⊢
      split at hr
      · cases hr
      · rename_i hq
        rw [if_neg hq]
        cases hp : pickO (frzAll st bl) (h0 :: t) with
        | none => simp only [hp] at hr; cases hr
        | some os =>
          simp only [hp] at hr ⊢
          cases hc : C f (renL (idx (h0 :: t)) as) (renS (idx (h0 :: t)) os) with
          | none => simp only [hc] at hr; cases hr
          | some y => simp only [hc] at hr; simp only [h _ _ _ _ hc]; exact hr

theorem mcall_cont {Cn : Nat → Orc} {C : Orc} (g : Grows Cn C) {q : Bool} {ms : List Bool} {f : Nat} {vs : List AV} {st : St} {r : AV × St} (hr : mcall C q ms f vs st = some r) : ∃ n, mcall (Cn n) q ms f vs st = some r := by
  unfold mcall at hr ⊢
  cases hb : brwA st ms vs with
  | none => simp only [hb] at hr; cases hr
  | some p =>
    obtain ⟨as, bl⟩ := p
    simp only [hb] at hr ⊢
    cases ho : reach (frzAll st bl) (hOfL as) with
    | nil =>
      simp only [ho] at hr ⊢
      cases hc : C f (renL (idx []) as) [] with
      | none => simp only [hc] at hr; cases hr
      | some y =>
        obtain ⟨n, hn⟩ := g.lim _ _ _ _ hc
        exact ⟨n, by simp only [hc] at hr; simp only [hn]; exact hr⟩
    | cons h0 t =>
      simp only [ho] at hr ⊢
      split at hr
      · cases hr
      · rename_i hq
        simp only [if_neg hq]
        cases hp : pickO (frzAll st bl) (h0 :: t) with
        | none => simp only [hp] at hr; cases hr
        | some os =>
          simp only [hp] at hr ⊢
          cases hc : C f (renL (idx (h0 :: t)) as) (renS (idx (h0 :: t)) os) with
          | none => simp only [hc] at hr; cases hr
          | some y =>
            obtain ⟨n, hn⟩ := g.lim _ _ _ _ hc
            exact ⟨n, by simp only [hc] at hr; simp only [hn]; exact hr⟩

theorem pcal_mono {C C' : Orc} (h : OLt C C') {f : Nat} {vs : List AV} {r : AV} (hr : pcal C f vs = some r) : pcal C' f vs = some r := by
  unfold pcal at hr ⊢
  split at hr
  · split at hr
    · split at hr
      · rename_i hc
        rw [h _ _ _ _ hc]; exact hr
      · cases hr
    · cases hr
  · cases hr

theorem pcal_cont {Cn : Nat → Orc} {C : Orc} (g : Grows Cn C) {f : Nat} {vs : List AV} {r : AV} (hr : pcal C f vs = some r) : ∃ n, pcal (Cn n) f vs = some r := by
  unfold pcal at hr ⊢
  split at hr
  · split at hr
    · split at hr
      · rename_i hc
        obtain ⟨n, hn⟩ := g.lim _ _ _ _ hc
        exact ⟨n, by rw [hn]; exact hr⟩
      · cases hr
    · cases hr
  · cases hr

theorem lcal_mono {C C' : Orc} (h : OLt C C') {L f : Nat} {vs : List AV} {st : St} {r : AV} (hr : lcal C L f vs st = some r) : lcal C' L f vs st = some r := by
  unfold lcal at hr ⊢
  split at hr
  · split at hr
    · rename_i hc
      rw [h _ _ _ _ hc]; exact hr
    · cases hr
  · cases hr

theorem lcal_cont {Cn : Nat → Orc} {C : Orc} (g : Grows Cn C) {L f : Nat} {vs : List AV} {st : St} {r : AV} (hr : lcal C L f vs st = some r) : ∃ n, lcal (Cn n) L f vs st = some r := by
  unfold lcal at hr ⊢
  split at hr
  · split at hr
    · rename_i hc
      obtain ⟨n, hn⟩ := g.lim _ _ _ _ hc
      exact ⟨n, by rw [hn]; exact hr⟩
    · cases hr
  · cases hr

theorem aop_mono {C C' : Orc} (h : OLt C C') {L : Nat} {o : AOp} {ρ : Nat → AV} {st : St} {r : AV × St} (hr : aop C L o ρ st = some r) : aop C' L o ρ st = some r := by
  cases o with
  | call q ms f xs =>
    simp only [aop] at hr ⊢
    split at hr
    · exact mcall_mono h hr
    · cases hr
  | callg ms f xs g =>
    simp only [aop] at hr ⊢
    split at hr
    · split at hr
      · rename_i hq; rw [if_pos hq]; exact mcall_mono h hr
      · cases hr
    · cases hr
  | lcall f xs =>
    simp only [aop] at hr ⊢
    split at hr
    · rename_i g caps _
      cases hp : lcal C L g (evL ρ xs ++ caps) st with
      | none => simp only [hp, pair2] at hr; cases hr
      | some v => rw [lcal_mono h hp]; rw [hp] at hr; exact hr
    · cases hr
  | pcall f xs =>
    simp only [aop] at hr ⊢
    split at hr
    · rename_i g caps _
      cases hp : pcal C g (evL ρ xs ++ caps) with
      | none => simp only [hp, pair2] at hr; cases hr
      | some v => rw [pcal_mono h hp]; rw [hp] at hr; exact hr
    · cases hr
  | _ => exact hr

theorem aop_cont {Cn : Nat → Orc} {C : Orc} (g : Grows Cn C) {L : Nat} {o : AOp} {ρ : Nat → AV} {st : St} {r : AV × St} (hr : aop C L o ρ st = some r) : ∃ n, aop (Cn n) L o ρ st = some r := by
  cases o with
  | call q ms f xs =>
    simp only [aop] at hr ⊢
    split at hr
    · exact mcall_cont g hr
    · cases hr
  | callg ms f xs g' =>
    simp only [aop] at hr ⊢
    split at hr
    · split at hr
      · rename_i hq
        obtain ⟨n, hn⟩ := mcall_cont g hr
        exact ⟨n, by rw [if_pos hq]; exact hn⟩
      · cases hr
    · cases hr
  | lcall f xs =>
    simp only [aop] at hr ⊢
    split at hr
    · rename_i k caps _
      cases hp : lcal C L k (evL ρ xs ++ caps) st with
      | none => simp only [hp, pair2] at hr; cases hr
      | some v =>
        obtain ⟨n, hn⟩ := lcal_cont g hp
        exact ⟨n, by rw [hn]; rw [hp] at hr; exact hr⟩
    · cases hr
  | pcall f xs =>
    simp only [aop] at hr ⊢
    split at hr
    · rename_i k caps _
      cases hp : pcal C k (evL ρ xs ++ caps) with
      | none => simp only [hp, pair2] at hr; cases hr
      | some v =>
        obtain ⟨n, hn⟩ := pcal_cont g hp
        exact ⟨n, by rw [hn]; rw [hp] at hr; exact hr⟩
    · cases hr
  | _ => exact ⟨0, hr⟩

theorem gstep_mono {C C' : Orc} (h : OLt C C') {L : Nat} {x : AI} {ρ : Nat → AV} {st : St} {r : AV × St} (hr : gstep C L x ρ st = some r) : gstep C' L x ρ st = some r := by
  unfold gstep at hr ⊢
  cases hg : x.guard with
  | none => rw [hg] at hr; exact aop_mono h hr
  | some gb =>
    obtain ⟨k, b⟩ := gb
    simp only [hg] at hr ⊢
    split at hr
    · split at hr
      · rename_i hb; simp only [hb, if_true]; exact aop_mono h hr
      · rename_i hb; simp only [hb, if_false]; exact hr
    · exact hr
    · cases hr

theorem gstep_cont {Cn : Nat → Orc} {C : Orc} (g : Grows Cn C) {L : Nat} {x : AI} {ρ : Nat → AV} {st : St} {r : AV × St} (hr : gstep C L x ρ st = some r) : ∃ n, gstep (Cn n) L x ρ st = some r := by
  unfold gstep at hr ⊢
  cases hg : x.guard with
  | none => rw [hg] at hr; exact aop_cont g hr
  | some gb =>
    obtain ⟨k, b⟩ := gb
    simp only [hg] at hr ⊢
    split at hr
    · split at hr
      · rename_i hb; simp only [hb, if_true]; exact aop_cont g hr
      · rename_i hb; simp only [hb, if_false]; exact ⟨0, hr⟩
    · exact ⟨0, hr⟩
    · cases hr

theorem astep_some {C : Orc} {L : Nat} {x : AI} {ρ ρ1 : Nat → AV} {st st1 : St} : astep C L x ρ st = some (ρ1, st1) ↔ ∃ v, gstep C L x ρ st = some (v, st1) ∧ ρ1 = put ρ x.dst v := by
  rw [astep_eq]
  cases gstep C L x ρ st with
  | none => simp
  | some r =>
    obtain ⟨v, s⟩ := r
    simp
    constructor
    · rintro ⟨rfl, rfl⟩; exact ⟨v, ⟨rfl, rfl⟩, rfl⟩
    · rintro ⟨v', ⟨rfl, rfl⟩, rfl⟩; exact ⟨rfl, rfl⟩

theorem aops_mono {C C' : Orc} (h : OLt C C') {lim : Option Nat} : ∀ {xs : List AI} {ρ : Nat → AV} {st : St} {r : (Nat → AV) × St}, aops C lim xs ρ st = some r → aops C' lim xs ρ st = some r
  | [], ρ, st, r, hr => hr
  | x :: xs, ρ, st, r, hr => by
    simp only [aops] at hr ⊢
    cases hs : astep C (lim.getD st.length) x ρ st with
    | none => simp only [hs] at hr; cases hr
    | some p =>
      obtain ⟨ρ1, st1⟩ := p
      simp only [hs] at hr
      obtain ⟨v, h1, h2⟩ := astep_some.1 hs
      rw [astep_some.2 ⟨v, gstep_mono h h1, h2⟩]
      exact aops_mono h hr

theorem aops_cont {Cn : Nat → Orc} {C : Orc} (g : Grows Cn C) {lim : Option Nat} : ∀ {xs : List AI} {ρ : Nat → AV} {st : St} {r : (Nat → AV) × St}, aops C lim xs ρ st = some r → ∃ n, aops (Cn n) lim xs ρ st = some r
  | [], ρ, st, r, hr => ⟨0, hr⟩
  | x :: xs, ρ, st, r, hr => by
    simp only [aops] at hr ⊢
    cases hs : astep C (lim.getD st.length) x ρ st with
    | none => simp only [hs] at hr; cases hr
    | some p =>
      obtain ⟨ρ1, st1⟩ := p
      simp only [hs] at hr
      obtain ⟨v, h1, h2⟩ := astep_some.1 hs
      obtain ⟨n1, k1⟩ := gstep_cont g h1
      obtain ⟨n2, k2⟩ := aops_cont g hr
      refine ⟨max n1 n2, ?_⟩
      rw [astep_some.2 ⟨v, gstep_mono (g.le (Nat.le_max_left _ _)) k1, h2⟩]
      exact aops_mono (g.le (Nat.le_max_right _ _)) k2

theorem nx_mono {C C' : Orc} (h : OLt C C') {m : Nat} {K : List AT} {e : Env} {st : St} {r : Nx} (hr : nx C m K e st = some r) : nx C' m K e st = some r := by
  cases K with
  | nil => exact hr
  | cons x K =>
    cases x with
    | code c =>
      cases c with
      | reg dr ops kp =>
        simp only [nx] at hr ⊢
        cases ha : aops C (if dr = true then some (List.length st) else none) ops (eget e) st with
        | none => simp only [ha] at hr; cases hr
        | some p => simp only [ha] at hr; simp only [aops_mono h ha]; exact hr
      | _ => exact hr
    | _ => exact hr

theorem nx_cont {Cn : Nat → Orc} {C : Orc} (g : Grows Cn C) {m : Nat} {K : List AT} {e : Env} {st : St} {r : Nx} (hr : nx C m K e st = some r) : ∃ n, nx (Cn n) m K e st = some r := by
  cases K with
  | nil => exact ⟨0, hr⟩
  | cons x K =>
    cases x with
    | code c =>
      cases c with
      | reg dr ops kp =>
        simp only [nx] at hr ⊢
        cases ha : aops C (if dr = true then some (List.length st) else none) ops (eget e) st with
        | none => simp only [ha] at hr; cases hr
        | some p =>
          obtain ⟨n, hn⟩ := aops_cont g ha
          exact ⟨n, by simp only [ha] at hr; simp only [hn]; exact hr⟩
      | _ => exact ⟨0, hr⟩
    | _ => exact ⟨0, hr⟩

theorem runK_mono {C C' : Orc} (h : OLt C C') {m : Nat} : ∀ {n n' : Nat} {K : List AT} {e : Env} {st : St} {r : Env × St}, n ≤ n' → runK C m n K e st = some r → runK C' m n' K e st = some r
  | 0, _, _, _, _, _, _, hr => by simp [runK] at hr
  | n + 1, 0, _, _, _, _, hl, _ => by omega
  | n + 1, n' + 1, K, e, st, r, hl, hr => by
    simp only [runK] at hr ⊢
    cases hx : nx C m K e st with
    | none => simp only [hx] at hr; cases hr
    | some y =>
      simp only [hx] at hr
      simp only [nx_mono h hx]
      cases y with
      | go K1 e1 st1 => exact runK_mono h (by omega) hr
      | done e1 st1 => exact hr

theorem runK_cont {Cn : Nat → Orc} {C : Orc} (g : Grows Cn C) {m : Nat} : ∀ {n : Nat} {K : List AT} {e : Env} {st : St} {r : Env × St}, runK C m n K e st = some r → ∃ k, runK (Cn k) m n K e st = some r
  | 0, _, _, _, _, hr => by simp [runK] at hr
  | n + 1, K, e, st, r, hr => by
    simp only [runK] at hr ⊢
    cases hx : nx C m K e st with
    | none => simp only [hx] at hr; cases hr
    | some y =>
      simp only [hx] at hr
      obtain ⟨k1, h1⟩ := nx_cont g hx
      cases y with
      | go K1 e1 st1 =>
        obtain ⟨k2, h2⟩ := runK_cont g hr
        refine ⟨max k1 k2, ?_⟩
        rw [nx_mono (g.le (Nat.le_max_left _ _)) h1]
        exact runK_mono (g.le (Nat.le_max_right _ _)) (Nat.le_refl _) h2
      | done e1 st1 => exact ⟨k1, by rw [h1]; exact hr⟩

section
variable (T : Nat → Option AFunc) (X : Orc)

theorem callK_mono : ∀ n, OLt (callK T X n) (callK T X (n + 1))
  | 0, f, vs, st, r, h => by
    simp only [callK] at h ⊢
    rw [h]
  | n + 1, f, vs, st, r, h => by
    have ih := callK_mono n
    rw [callK] at h ⊢
    cases hx : X f vs st with
    | some y => simp only [hx] at h ⊢; exact h
    | none =>
      simp only [hx] at h ⊢
      cases hF : T f with
      | none => simp only [hF] at h; cases h
      | some F =>
        simp only [hF] at h ⊢
        split at h
        · rename_i hnp
          rw [if_pos hnp]
          cases hr : runK (callK T X n) st.length n [.code F.body] (args 0 vs) st with
          | none => simp only [hr] at h; cases h
          | some p => simp only [hr] at h; simp only [runK_mono ih (Nat.le_succ n) hr]; exact h
        · cases h

open Classical in
/-- A call. -/
noncomputable def acall : Orc := fun f vs st => if h : ∃ r n, callK T X n f vs st = some r then some h.choose else none

theorem callK_le {n m : Nat} (h : n ≤ m) : OLt (callK T X n) (callK T X m) := by
  induction h with
  | refl => exact fun _ _ _ _ h => h
  | step _ ih => exact fun f vs st r hr => callK_mono T X _ _ _ _ _ (ih f vs st r hr)

theorem acall_iff {f : Nat} {vs : List AV} {st : St} {r : AV × St} : acall T X f vs st = some r ↔ ∃ n, callK T X n f vs st = some r := by
  unfold acall
  constructor
  · intro h
    split at h
    · rename_i hh
      obtain ⟨n, hn⟩ := hh.choose_spec
      cases h
      exact ⟨n, hn⟩
    · cases h
  · rintro ⟨n, hn⟩
    have hh : ∃ r n, callK T X n f vs st = some r := ⟨r, n, hn⟩
    rw [dif_pos hh]
    obtain ⟨k, hk⟩ := hh.choose_spec
    have h1 := callK_le T X (Nat.le_max_left n k) _ _ _ _ hn
    have h2 := callK_le T X (Nat.le_max_right n k) _ _ _ _ hk
    rw [h1] at h2
    exact h2.symm

theorem grows : Grows (callK T X) (acall T X) :=
  ⟨callK_mono T X, fun n _ _ _ _ h => (acall_iff T X).2 ⟨n, h⟩, fun _ _ _ _ h => (acall_iff T X).1 h⟩

open Classical in
/-- A run. -/
noncomputable def run (m : Nat) (K : List AT) (e : Env) (st : St) : Option (Env × St) := if h : ∃ r n, runK (acall T X) m n K e st = some r then some h.choose else none

theorem run_iff {m : Nat} {K : List AT} {e : Env} {st : St} {r : Env × St} : run T X m K e st = some r ↔ ∃ n, runK (acall T X) m n K e st = some r := by
  unfold run
  constructor
  · intro h
    split at h
    · rename_i hh
      obtain ⟨n, hn⟩ := hh.choose_spec
      cases h
      exact ⟨n, hn⟩
    · cases h
  · rintro ⟨n, hn⟩
    have hh : ∃ r n, runK (acall T X) m n K e st = some r := ⟨r, n, hn⟩
    rw [dif_pos hh]
    obtain ⟨k, hk⟩ := hh.choose_spec
    have h1 := runK_mono (C := acall T X) (fun _ _ _ _ h => h) (Nat.le_max_left n k) hn
    have h2 := runK_mono (C := acall T X) (fun _ _ _ _ h => h) (Nat.le_max_right n k) hk
    rw [h1] at h2
    exact h2.symm

/-- One step of a run. -/
theorem run_eq (m : Nat) (K : List AT) (e : Env) (st : St) : run T X m K e st = match nx (acall T X) m K e st with
    | some (.go K1 e1 st1) => run T X m K1 e1 st1
    | some (.done e1 st1) => some (e1, st1)
    | none => none := by
  apply Option.ext
  intro r
  rw [run_iff]
  constructor
  · rintro ⟨n, hn⟩
    cases n with
    | zero => simp [runK] at hn
    | succ n =>
      simp only [runK] at hn
      cases hx : nx (acall T X) m K e st with
      | none => simp only [hx] at hn; cases hn
      | some y =>
        simp only [hx] at hn
        cases y with
        | go K1 e1 st1 => exact (run_iff T X).2 ⟨n, hn⟩
        | done e1 st1 => exact hn
  · intro h
    cases hx : nx (acall T X) m K e st with
    | none => simp only [hx] at h; cases h
    | some y =>
      simp only [hx] at h
      cases y with
      | go K1 e1 st1 =>
        obtain ⟨n, hn⟩ := (run_iff T X).1 h
        exact ⟨n + 1, by simp only [runK, hx]; exact hn⟩
      | done e1 st1 => exact ⟨1, by simp only [runK, hx]; exact h⟩

/-- A call unfolds to a run of the function's body. -/
theorem acall_eq {f : Nat} {F : AFunc} (hF : T f = some F) {vs : List AV} {st : St} (hX : X f vs st = none) (hn : vs.length = F.np) :
    acall T X f vs st = match run T X st.length [.code F.body] (args 0 vs) st with
      | some (e, st1) => fin F st.length e st1
      | none => none := by
  apply Option.ext
  intro r
  rw [acall_iff]
  constructor
  · rintro ⟨n, h⟩
    cases n with
    | zero => simp only [callK] at h; rw [hX] at h; cases h
    | succ n =>
      simp only [callK, hX, hF, if_pos hn] at h
      cases hr : runK (callK T X n) st.length n [.code F.body] (args 0 vs) st with
      | none => simp only [hr] at h; cases h
      | some p =>
        simp only [hr] at h
        have := (run_iff T X).2 ⟨n, runK_mono ((grows T X).up n) (Nat.le_refl _) hr⟩
        rw [this]; exact h
  · intro h
    cases hr : run T X st.length [.code F.body] (args 0 vs) st with
    | none => simp only [hr] at h; cases h
    | some p =>
      simp only [hr] at h
      obtain ⟨n, hn'⟩ := (run_iff T X).1 hr
      obtain ⟨k, hk⟩ := runK_cont (grows T X) hn'
      refine ⟨max n k + 1, ?_⟩
      simp only [callK, hX, hF, if_pos hn]
      rw [runK_mono (callK_le T X (Nat.le_max_right n k)) (Nat.le_max_left n k) hk]
      exact h

/-- What is told from outside. -/
theorem acall_x {f : Nat} {vs : List AV} {st : St} {r : AV × St} (hX : X f vs st = some r) : acall T X f vs st = some r := (acall_iff T X).2 ⟨0, hX⟩

theorem acall_ok {P : Program} {Φ : Nat → FuncId} (hT : TOk P Φ T) (hX : COk P Φ X) : COk P Φ (acall T X) := by
  intro f vs st v st' h
  obtain ⟨n, hn⟩ := (acall_iff T X).1 h
  exact callK_ok hT hX n f vs st v st' hn

end
end Go.Proofs.YtplgdddfhjpojaaGreat.AM

namespace Go.Proofs.YtplgdddfhjpojaaGreat.AM
open Go

/-! ### Words -/
/-- A word of 64 bits. -/
def D.w (x : BitVec 64) : D := .int .u64 x.toNat
/-- A byte. -/
def D.u (x : BitVec 8) : D := .int .u8 x.toNat

theorem wrapU (n : Int) : IntKind.u64.wrap n = n % 18446744073709551616 := by simp [IntKind.wrap, IntKind.bits, IntKind.signed]
theorem wrapU8 (n : Int) : IntKind.u8.wrap n = n % 256 := by simp [IntKind.wrap, IntKind.bits, IntKind.signed]

theorem wrap_u64_toNat (n : Nat) : IntKind.u64.wrap (n : Int) = ((BitVec.ofNat 64 n).toNat : Nat) := by
  rw [wrapU]; simp

theorem wrap_u64_ofInt (n : Int) : IntKind.u64.wrap n = ((BitVec.ofInt 64 n).toNat : Nat) := by
  rw [wrapU, BitVec.toNat_ofInt]
  omega

section
variable (x y : BitVec 64)

theorem w_add : abin .add (.w x) (.w y) = some (.w (x + y)) := by
  simp only [abin, aint, D.w, if_true]
  rw [← Int.natCast_add, wrap_u64_toNat]
  simp [BitVec.toNat_add]
theorem w_sub : abin .sub (.w x) (.w y) = some (.w (x - y)) := by
  simp only [abin, aint, D.w, if_true]
  rw [wrap_u64_ofInt]
  have : BitVec.ofInt 64 ((x.toNat : Int) - y.toNat) = x - y := by
    apply BitVec.eq_of_toNat_eq
    rw [BitVec.toNat_ofInt, BitVec.toNat_sub]
    have := x.isLt; have := y.isLt
    omega
  rw [this]
theorem w_mul : abin .mul (.w x) (.w y) = some (.w (x * y)) := by
  simp only [abin, aint, D.w, if_true]
  rw [← Int.natCast_mul, wrap_u64_toNat]
  simp [BitVec.toNat_mul]
theorem w_quo : abin .quo (.w x) (.w y) = if y = 0#64 then none else some (.w (x / y)) := by
  have h : ((y.toNat : Int) = 0) ↔ y = 0#64 := by
    constructor
    · intro h; apply BitVec.eq_of_toNat_eq; simpa using h
    · rintro rfl; rfl
  simp only [abin, aint, D.w, if_true, h]
  split
  · rfl
  · rw [← Int.ofNat_tdiv, wrap_u64_toNat, BitVec.toNat_udiv, BitVec.toNat_ofNat, Nat.mod_eq_of_lt (Nat.lt_of_le_of_lt (Nat.div_le_self _ _) x.isLt)]
theorem w_rem : abin .rem (.w x) (.w y) = if y = 0#64 then none else some (.w (x % y)) := by
  have h : ((y.toNat : Int) = 0) ↔ y = 0#64 := by
    constructor
    · intro h; apply BitVec.eq_of_toNat_eq; simpa using h
    · rintro rfl; rfl
  simp only [abin, aint, D.w, if_true, h]
  split
  · rfl
  · rw [← Int.ofNat_tmod, BitVec.toNat_umod]
theorem ofInt_toNat : BitVec.ofInt 64 (x.toNat : Int) = x := by simp
theorem w_and : abin .and (.w x) (.w y) = some (.w (x &&& y)) := by
  have : IntKind.u64.bits = 64 := rfl
  simp only [abin, aint, D.w, if_true]
  show some (D.int .u64 (IntKind.u64.wrap ((BitVec.ofInt 64 (x.toNat : Int) &&& BitVec.ofInt 64 (y.toNat : Int)).toNat : Nat))) = _
  rw [ofInt_toNat, ofInt_toNat, wrap_u64_toNat]; simp
theorem w_or : abin .or (.w x) (.w y) = some (.w (x ||| y)) := by
  simp only [abin, aint, D.w, if_true]
  show some (D.int .u64 (IntKind.u64.wrap ((BitVec.ofInt 64 (x.toNat : Int) ||| BitVec.ofInt 64 (y.toNat : Int)).toNat : Nat))) = _
  rw [ofInt_toNat, ofInt_toNat, wrap_u64_toNat]; simp
theorem w_xor : abin .xor (.w x) (.w y) = some (.w (x ^^^ y)) := by
  simp only [abin, aint, D.w, if_true]
  show some (D.int .u64 (IntKind.u64.wrap ((BitVec.ofInt 64 (x.toNat : Int) ^^^ BitVec.ofInt 64 (y.toNat : Int)).toNat : Nat))) = _
  rw [ofInt_toNat, ofInt_toNat, wrap_u64_toNat]; simp
theorem w_not : aun .xor (.w x) = some (.w (~~~x)) := by
  simp only [aun, D.w]
  show some (D.int .u64 (IntKind.u64.wrap ((BitVec.ofInt 64 IntKind.u64.max ^^^ BitVec.ofInt 64 (x.toNat : Int)).toNat : Nat))) = _
  rw [ofInt_toNat, wrap_u64_toNat]
  have : BitVec.ofInt 64 IntKind.u64.max = BitVec.allOnes 64 := by decide
  rw [this, BitVec.allOnes_xor, BitVec.toNat_ofNat, Nat.mod_eq_of_lt (BitVec.isLt _)]
theorem w_neg : aun .neg (.w x) = some (.w (-x)) := by
  simp only [aun, D.w]
  rw [wrap_u64_ofInt]
  have : BitVec.ofInt 64 (0 - (x.toNat : Int)) = -x := by
    apply BitVec.eq_of_toNat_eq
    rw [BitVec.toNat_ofInt, BitVec.toNat_neg]
    have := x.isLt
    omega
  rw [this]
theorem w_eql : abin .eql (.w x) (.w y) = some (.bool (x == y)) := by
  simp only [abin, aint, D.w, if_true]
  congr 2
  by_cases h : x = y
  · subst h; simp
  · have : (x.toNat : Int) ≠ y.toNat := fun e => h (BitVec.eq_of_toNat_eq (by omega))
    rw [beq_eq_false_iff_ne.2 h, beq_eq_false_iff_ne.2 this]
theorem w_neq : abin .neq (.w x) (.w y) = some (.bool (!(x == y))) := by
  have := w_eql x y
  simp only [abin, aint, D.w, if_true, bne] at this ⊢
  injection this with this
  injection this with this
  rw [this]
theorem w_lss : abin .lss (.w x) (.w y) = some (.bool (decide (x < y))) := by
  simp only [abin, aint, D.w, if_true, BitVec.lt_def]
  congr 3
  exact propext Int.ofNat_lt
theorem w_leq : abin .leq (.w x) (.w y) = some (.bool (decide (x ≤ y))) := by
  simp only [abin, aint, D.w, if_true, BitVec.le_def]
  congr 3
  exact propext Int.ofNat_le
theorem w_gtr : abin .gtr (.w x) (.w y) = some (.bool (decide (y < x))) := by
  simp only [abin, aint, D.w, if_true, BitVec.lt_def]
  congr 3
  exact propext Int.ofNat_lt
theorem w_geq : abin .geq (.w x) (.w y) = some (.bool (decide (y ≤ x))) := by
  simp only [abin, aint, D.w, if_true, BitVec.le_def]
  congr 3
  exact propext Int.ofNat_le

theorem shl_nat (n : Nat) : IntKind.u64.wrap ((x.toNat : Int) * 2 ^ (min n 64)) = ((x <<< n).toNat : Nat) := by
  have : ((x.toNat : Int) * 2 ^ (min n 64)) = ((x.toNat * 2 ^ (min n 64) : Nat) : Int) := by push_cast; rfl
  rw [this, wrap_u64_toNat]
  congr 1
  rw [BitVec.toNat_ofNat, BitVec.toNat_shiftLeft, Nat.shiftLeft_eq]
  rcases Nat.le_total n 64 with h | h
  · rw [Nat.min_eq_left h]
  · rw [Nat.min_eq_right h]
    have e1 : x.toNat * 2 ^ 64 % 2 ^ 64 = 0 := Nat.mul_mod_left _ _
    have e2 : x.toNat * 2 ^ n % 2 ^ 64 = 0 := by
      obtain ⟨k, rfl⟩ := Nat.exists_eq_add_of_le h
      rw [Nat.pow_add, ← Nat.mul_assoc, Nat.mul_right_comm]
      exact Nat.mul_mod_left _ _
    rw [e1, e2]

theorem shr_nat (n : Nat) : (x.toNat : Int).fdiv (2 ^ (min n 64)) = ((x >>> n).toNat : Nat) := by
  have : ((2 : Int) ^ (min n 64)) = ((2 ^ (min n 64) : Nat) : Int) := by push_cast; rfl
  rw [this, Int.fdiv_eq_ediv_of_nonneg _ (Int.natCast_nonneg _), ← Int.natCast_ediv]
  congr 1
  rw [BitVec.toNat_ushiftRight, Nat.shiftRight_eq_div_pow]
  rcases Nat.le_total n 64 with h | h
  · rw [Nat.min_eq_left h]
  · rw [Nat.min_eq_right h, Nat.div_eq_of_lt x.isLt, Nat.div_eq_of_lt (Nat.lt_of_lt_of_le x.isLt (Nat.pow_le_pow_right (by decide) h))]

/-- A number as a word, a word as a number, shifts. -/
def ofI (a : Int) : BitVec 64 := BitVec.ofInt 64 a
def toI (x : BitVec 64) : Int := x.toInt
def sll (x : BitVec 64) (n : Nat) : BitVec 64 := x <<< n
def srl (x : BitVec 64) (n : Nat) : BitVec 64 := x >>> n

theorem w_shl : abin .shl (.w x) (.w y) = some (.w (sll x y.toNat)) := by
  simp only [abin, ashift, D.w]
  rw [if_neg (by omega)]
  simp only [if_true, Int.toNat_natCast]
  exact congrArg (fun n => some (D.int .u64 n)) (shl_nat x y.toNat)
theorem w_shr : abin .shr (.w x) (.w y) = some (.w (srl x y.toNat)) := by
  simp only [abin, ashift, D.w]
  rw [if_neg (by omega)]
  simp only [Bool.false_eq_true, if_false, Int.toNat_natCast]
  exact congrArg (fun n => some (D.int .u64 n)) (shr_nat x y.toNat)
theorem w_shli (k : IntKind) (n : Int) : abin .shl (.w x) (.int k n) = if n < 0 then none else some (.w (sll x n.toNat)) := by
  simp only [abin, ashift, D.w]
  split
  · rfl
  · simp only [if_true]
    exact congrArg (fun n => some (D.int .u64 n)) (shl_nat x n.toNat)
theorem w_shri (k : IntKind) (n : Int) : abin .shr (.w x) (.int k n) = if n < 0 then none else some (.w (srl x n.toNat)) := by
  simp only [abin, ashift, D.w]
  split
  · rfl
  · simp only [Bool.false_eq_true, if_false]
    exact congrArg (fun n => some (D.int .u64 n)) (shr_nat x n.toNat)

/-! ### Numbers -/
variable (a b : Int)
/-- A number as it is kept in 64 bits. -/
def wr (n : Int) : Int := IntKind.i64.wrap n

theorem wr_id {n : Int} (h1 : -9223372036854775808 ≤ n) (h2 : n ≤ 9223372036854775807) : wr n = n := by
  rw [wr, IntKind.wrap_i64]; omega

theorem i_add : abin .add (.int .i64 a) (.int .i64 b) = some (.int .i64 (wr (a + b))) := rfl
theorem i_sub : abin .sub (.int .i64 a) (.int .i64 b) = some (.int .i64 (wr (a - b))) := rfl
theorem i_mul : abin .mul (.int .i64 a) (.int .i64 b) = some (.int .i64 (wr (a * b))) := rfl
theorem i_quo : abin .quo (.int .i64 a) (.int .i64 b) = if b = 0 then none else some (.int .i64 (wr (a.tdiv b))) := rfl
theorem i_rem : abin .rem (.int .i64 a) (.int .i64 b) = if b = 0 then none else some (.int .i64 (a.tmod b)) := rfl
theorem i_eql (k : IntKind) : abin .eql (.int k a) (.int k b) = some (.bool (a == b)) := by simp [abin, aint]
theorem i_neq (k : IntKind) : abin .neq (.int k a) (.int k b) = some (.bool (a != b)) := by simp [abin, aint]
theorem i_lss (k : IntKind) : abin .lss (.int k a) (.int k b) = some (.bool (decide (a < b))) := by simp [abin, aint]
theorem i_leq (k : IntKind) : abin .leq (.int k a) (.int k b) = some (.bool (decide (a ≤ b))) := by simp [abin, aint]
theorem i_gtr (k : IntKind) : abin .gtr (.int k a) (.int k b) = some (.bool (decide (b < a))) := by simp [abin, aint]
theorem i_geq (k : IntKind) : abin .geq (.int k a) (.int k b) = some (.bool (decide (b ≤ a))) := by simp [abin, aint]
theorem i_neg : aun .neg (.int .i64 a) = some (.int .i64 (wr (0 - a))) := rfl
theorem b_not (p : Bool) : aun .not (.bool p) = some (.bool (!p)) := rfl

/-- Conversions. -/
def cnv (k : IntKind) : D → Option D
  | .int _ n => some (.int k (k.wrap n))
  | _ => none

theorem cnv_wi : cnv .u64 (.int .i64 a) = some (.w (ofI a)) := by
  simp only [cnv, D.w, wrap_u64_ofInt, ofI]
theorem cnv_iw : cnv .i64 (.w x) = some (.int .i64 (toI x)) := by
  simp only [cnv, D.w, toI]
  congr 2
  rw [IntKind.wrap_i64, BitVec.toInt_eq_toNat_cond]
  have := x.isLt
  split <;> omega
theorem cnv_ww : cnv .u64 (.w x) = some (.w x) := by
  simp only [cnv, D.w]
  rw [wrap_u64_toNat]; simp
theorem cnv_ii : cnv .i64 (.int .i64 a) = some (.int .i64 (wr a)) := rfl
theorem cnv_iu (z : BitVec 8) : cnv .i64 (.u z) = some (.int .i64 z.toNat) := by
  simp only [cnv, D.u]
  congr 2
  rw [IntKind.wrap_i64]
  have := z.isLt
  omega
theorem cnv_ui : cnv .u8 (.int .i64 a) = some (.u (BitVec.ofInt 8 a)) := by
  simp only [cnv, D.u]
  congr 2
  rw [wrapU8, BitVec.toNat_ofInt]
  omega
end
end Go.Proofs.YtplgdddfhjpojaaGreat.AM

namespace Go.Proofs.YtplgdddfhjpojaaGreat.AM
open Go

theorem put_eget (e : Env) (t : Nat) (v : AV) : put (eget e) (some t) v = eget ((t, v) :: e) := by
  funext x; rfl
theorem put_none (ρ : Nat → AV) (v : AV) : put ρ none v = ρ := rfl
theorem eget_nil (x : Nat) : eget [] x = .undef := rfl
theorem eget_same (t : Nat) (v : AV) (e : Env) : eget ((t, v) :: e) t = v := by simp [eget]
theorem eget_cons (t u : Nat) (v : AV) (e : Env) : eget ((t, v) :: e) u = if t = u then v else eget e u := rfl

/-- A run to a function's end and its results. -/
noncomputable def go (T : Nat → Option AFunc) (X : Orc) (F : AFunc) (m : Nat) (K : List AT) (e : Env) (st : St) : Option (AV × St) :=
  match run T X m K e st with
  | some (e1, st1) => fin F m e1 st1
  | none => none

theorem acall_go {T : Nat → Option AFunc} {X : Orc} {f : Nat} {F : AFunc} {vs : List AV} {st : St} (hF : T f = some F) (hX : X f vs st = none) (hn : vs.length = F.np) :
    acall T X f vs st = go T X F st.length [.code F.body] (args 0 vs) st := acall_eq T X hF hX hn

section
variable (T : Nat → Option AFunc) (X : Orc) (F : AFunc) (m : Nat) (K : List AT) (e : Env) (st : St)

theorem go_eq : go T X F m K e st = match nx (acall T X) m K e st with
    | some (.go K1 e1 st1) => go T X F m K1 e1 st1
    | some (.done e1 st1) => fin F m e1 st1
    | none => none := by
  unfold go
  rw [run_eq]
  cases nx (acall T X) m K e st with
  | none => rfl
  | some y => cases y <;> rfl

theorem go_skip : go T X F m (.code .skip :: K) e st = go T X F m K e st := by rw [go_eq]; rfl
theorem go_nil : go T X F m [] e st = fin F m e st := by rw [go_eq]; rfl
theorem go_ret : go T X F m (.code .ret :: K) e st = fin F m e st := by rw [go_eq]; rfl
theorem go_seq (a b : AC) : go T X F m (.code (.seq a b) :: K) e st = go T X F m (.code a :: .code b :: K) e st := by rw [go_eq]; rfl
theorem go_block (id : Nat) (c : AC) : go T X F m (.code (.block id c) :: K) e st = go T X F m (.code c :: .inBlock id :: K) e st := by rw [go_eq]; rfl
theorem go_inBlock (id : Nat) : go T X F m (.inBlock id :: K) e st = go T X F m K e st := by rw [go_eq]; rfl
theorem go_exit (id : Nat) : go T X F m (.code (.exit id) :: K) e st = match aexit id K with | some K1 => go T X F m K1 e st | none => none := by
  rw [go_eq]; simp only [nx]; cases aexit id K <;> rfl
theorem go_loop (kp : List (Nat × CV)) (c : AC) : go T X F m (.code (.loop kp c) :: K) e st = go T X F m (.inLoop kp c :: K) e st := by
  rw [go_eq, go_eq T X F m (.inLoop kp c :: K)]; rfl
theorem go_kp (kp : List (Nat × CV)) (c : AC) : go T X F m (.code (.kp kp c) :: K) e st = match head m kp e st with | some (e1, st1) => go T X F m (.code c :: K) e1 st1 | none => none := by
  rw [go_eq]; simp only [nx]; cases head m kp e st <;> rfl
theorem go_inLoop (kp : List (Nat × CV)) (c : AC) : go T X F m (.inLoop kp c :: K) e st = match head m kp e st with | some (e1, st1) => go T X F m (.code c :: .inLoop kp c :: K) e1 st1 | none => none := by
  rw [go_eq]; simp only [nx]; cases head m kp e st <;> rfl
theorem go_cond (c : AOpd) (a b : AC) : go T X F m (.code (.cond c a b) :: K) e st = match c.ev (eget e) with
    | .d (.bool t) => if t then go T X F m (.code a :: K) e st else go T X F m (.code b :: K) e st
    | _ => none := by
  rw [go_eq]; simp only [nx]
  cases c.ev (eget e) with
  | d x =>
    cases x with
    | bool t => cases t <;> rfl
    | _ => rfl
  | _ => rfl
theorem go_reg (dr : Bool) (ops : List AI) (kp : List Nat) : go T X F m (.code (.reg dr ops kp) :: K) e st = match aops (acall T X) (if dr then some st.length else none) ops (eget e) st with
    | some (ρ, st1) => go T X F m K (keep ρ kp) st1
    | none => none := by
  rw [go_eq]; simp only [nx]
  cases aops (acall T X) (if dr then some st.length else none) ops (eget e) st <;> rfl

variable (C : Orc) (lim : Option Nat) (ρ : Nat → AV)
theorem aops_nil : aops C lim [] ρ st = some (ρ, st) := rfl
theorem aops_cons (d : Option Nat) (o : AOp) (os : List AI) : aops C lim (⟨d, none, o⟩ :: os) ρ st = match aop C (lim.getD st.length) o ρ st with
    | some (v, st1) => aops C lim os (put ρ d v) st1
    | none => none := by
  simp only [aops, astep]
  cases aop C (lim.getD st.length) o ρ st <;> rfl
theorem aops_guard (d : Option Nat) (g : Nat) (want : Bool) (o : AOp) (os : List AI) : aops C lim (⟨d, some (g, want), o⟩ :: os) ρ st = match ρ g with
    | .d (.bool b) => if b = want then (match aop C (lim.getD st.length) o ρ st with
        | some (v, st1) => aops C lim os (put ρ d v) st1
        | none => none) else aops C lim os (put ρ d (.tup [])) st
    | .tup [] => aops C lim os (put ρ d (.tup [])) st
    | _ => none := by
  simp only [aops, astep]
  generalize ρ g = V
  have key : ∀ b : Bool, (match (if b = want then (match aop C (lim.getD st.length) o ρ st with
        | some (v, st1) => some (put ρ d v, st1)
        | none => none) else some (put ρ d (.tup []), st)) with
      | some (ρ1, st1) => aops C lim os ρ1 st1
      | none => none) = if b = want then (match aop C (lim.getD st.length) o ρ st with
        | some (v, st1) => aops C lim os (put ρ d v) st1
        | none => none) else aops C lim os (put ρ d (.tup [])) st := by
    intro b
    by_cases hb : b = want
    · simp only [if_pos hb]; cases aop C (lim.getD st.length) o ρ st <;> rfl
    · simp only [if_neg hb]
  cases V with
  | d x =>
    cases x with
    | bool b => exact key b
    | _ => rfl
  | tup vs => cases vs <;> rfl
  | _ => rfl

/-! ### Operations -/
variable (L : Nat)
theorem o_mv (x : AOpd) : aop C L (.mv x) ρ st = some (x.ev ρ, st) := rfl
theorem o_bin (op : BinOp) (x y : AOpd) : aop C L (.bin op x y) ρ st = pair2 (dbin (abin op) (x.ev ρ) (y.ev ρ)) st := rfl
theorem o_conv (k : IntKind) (x : AOpd) : aop C L (.conv k x) ρ st = match x.ev ρ with | .d y => (match cnv k y with | some z => some (.d z, st) | none => none) | _ => none := by
  simp only [aop]
  split
  · rename_i h; rw [h]; rfl
  · rename_i h
    cases hx : x.ev ρ with
    | d y => cases y <;> first | rfl | exact absurd hx (h _ _)
    | _ => rfl
theorem ev_t (n : Nat) : (AOpd.t n).ev ρ = ρ n := rfl
theorem ev_k (d : D) : (AOpd.k d).ev ρ = .d d := rfl
theorem ev_f (i : Nat) : (AOpd.f i).ev ρ = .fn i [] := rfl
end
theorem dbin_d (f : D → D → Option D) (x y : D) : dbin f (.d x) (.d y) = match f x y with | some z => some (.d z) | none => none := rfl
theorem pair2_some (v : AV) (st : St) : pair2 (some v) st = some (v, st) := rfl
theorem pair2_none (st : St) : pair2 none st = none := rfl
theorem getD_n (n : Nat) : (none : Option Nat).getD n = n := rfl
theorem getD_s (n k : Nat) : (some k : Option Nat).getD n = k := rfl
end Go.Proofs.YtplgdddfhjpojaaGreat.AM

namespace Go.Proofs.YtplgdddfhjpojaaGreat.AM
open Go

section
variable (C : Orc) (lim : Nat) (ρ : Nat → AV) (st : St)
theorem o_pick (c : AOpd) (a : AOpd) (b : AOpd) : aop C lim (.pick c a b) ρ st = (match c.ev ρ with
    | .d (.bool t) => some (if t then a.ev ρ else b.ev ρ, st)
    | _ => none) := rfl
theorem o_alloc (z : List AV) : aop C lim (.alloc z) ρ st = (some (.ptr st.length 0 0 0, st ++ [.box z])) := rfl
theorem o_box (x : AOpd) : aop C lim (.box x) ρ st = (if solL (x.ev ρ).cells then some (.ptr st.length 0 0 0, st ++ [.box (x.ev ρ).cells]) else none) := rfl
theorem o_build (z : List AV) (ps : List (Nat × Nat × AOpd)) : aop C lim (.build z ps) ρ st = (match fillC ρ ps z with | some cs => some (.agg cs, st) | none => none) := rfl
theorem o_bslice (sz : Nat) (z : List D) (n : Nat) (ps : List (Nat × AOpd)) : aop C lim (.bslice sz z n ps) ρ st = (match fillE ρ sz ps (List.replicate n z) st with
    | some (es, st1) => some (.hs st1.length sz 0 n, st1 ++ [.arr sz es true])
    | none => none) := rfl
theorem o_brow (sz : Nat) (z : List D) (n : Nat) (ps : List (Nat × AOpd)) : aop C lim (.brow sz z n ps) ρ st = (match fillC ρ (ps.map fun p => (p.1 * sz, sz, p.2)) (rowCells n z) with
    | some cs => some (.hs st.length sz 0 n, st ++ [.box cs])
    | none => none) := rfl
theorem o_bslq (sz : Nat) (z : List D) (n : Nat) (ps : List (Nat × AOpd)) : aop C lim (.bslq sz z n ps) ρ st = (match fillQ ρ sz ps (List.replicate n z) st with
    | some (es, st1) => some (.hs st1.length sz 0 n, st1 ++ [.arr sz es true])
    | none => none) := rfl
theorem o_isnil (x : AOpd) : aop C lim (.isnil x) ρ st = (match x.ev ρ with
    | .d .nil => some (.d (.bool true), st)
    | .nn _ => some (.d (.bool false), st)
    | .d (.sl (_ :: _)) => some (.d (.bool false), st)
    | .hs _ _ _ (_ + 1) => some (.d (.bool false), st)
    | _ => none) := rfl
theorem o_dsl (sz : Nat) (z : List D) (n : Nat) (ps : List (Nat × AOpd)) : aop C lim (.dsl sz z n ps) ρ st = (match fillP ρ sz ps (List.replicate n z) with
    | some es => some (.d (.sl es), st)
    | none => none) := rfl
theorem o_ldb (n : Option Nat) (x : AOpd) : aop C lim (.ldb n x) ρ st = (pair2 (rdb lim st n (x.ev ρ)) st) := rfl
theorem o_ldg (n : Option Nat) (x g : AOpd) : aop C lim (.ldg n x g) ρ st = (if hd1 (x.ev ρ) = hd1 (g.ev ρ) then (match x.ev ρ with | .ptr h sz i f => pair2 (rd lim st n (.ptr h sz i f)) st | _ => none) else none) := rfl
theorem o_callg (ms : List Bool) (f : AOpd) (args : List AOpd) (g : AOpd) : aop C lim (.callg ms f args g) ρ st = (match f.ev ρ with
    | .fn k caps => if apart st ms (evL ρ args ++ caps) (g.ev ρ) then mcall C false ms k (evL ρ args ++ caps) st else none
    | _ => none) := rfl
theorem o_appb (sz : Nat) (x : AOpd) (y : AOpd) : aop C lim (.appb sz x y) ρ st = (appb st sz (x.ev ρ) (y.ev ρ)) := rfl
theorem o_slice0 (sz : Nat) (x : AOpd) : aop C lim (.slice0 sz x) ρ st = (match x.ev ρ with
    | .d (.sl _) => some (.hs st.length sz 0 0, st ++ [.arr sz [] true])
    | .d .nil => some (.hs st.length sz 0 0, st ++ [.arr sz [] true])
    | .hs _ _ _ _ => some (.hs st.length sz 0 0, st ++ [.arr sz [] true])
    | _ => none) := rfl
theorem o_mkrow (sz : Nat) (z : List D) (n : AOpd) (c : AOpd) : aop C lim (.mkrow sz z n c) ρ st = (match aIx (n.ev ρ), aIx (c.ev ρ) with
    | some l, some m => if l = m ∧ 0 ≤ l ∧ l ≤ maxApp then some (.hs st.length sz 0 l.toNat, st ++ [.box (rowCells l.toNat z)]) else none
    | _, _ => none) := rfl
theorem o_load (n : Option Nat) (x : AOpd) : aop C lim (.load n x) ρ st = (pair2 (rd lim st n (x.ev ρ)) st) := rfl
theorem o_store (n : Nat) (a : AOpd) (v : AOpd) : aop C lim (.store n a v) ρ st = (match wrt st n (a.ev ρ) (v.ev ρ) with | some st1 => some (.tup [], st1) | none => none) := rfl
theorem o_nilc (x : AOpd) : aop C lim (.nilc x) ρ st = (match x.ev ρ with
    | .ptr h sz i f => some (.ptr h sz i f, st)
    | .eptr c f => some (.eptr c f, st)
    | _ => none) := rfl
theorem o_eqb (neg : Bool) (x : AOpd) (y : AOpd) : aop C lim (.eqb neg x y) ρ st = (match x.ev ρ, y.ev ρ with
    | .d (.bool a), .d (.bool b) => some (.d (.bool (if neg then !(a == b) else a == b)), st)
    | _, _ => none) := rfl
theorem o_eqs (ks : List Nat) (neg : Bool) (x : AOpd) (y : AOpd) : aop C lim (.eqs ks neg x y) ρ st = (match x.ev ρ, y.ev ρ with
    | .agg cs, .agg ds => match deqL ks cs ds with
      | some r => some (.d (.bool (if neg then !r else r)), st)
      | none => none
    | _, _ => none) := rfl
theorem o_un (op : UnOp) (x : AOpd) : aop C lim (.un op x) ρ st = (match x.ev ρ with
    | .d a => match aun op a with | some z => some (.d z, st) | none => none
    | _ => none) := rfl
theorem o_convs (x : AOpd) : aop C lim (.convs x) ρ st = (match x.ev ρ with
    | .d (.str l) => some (.d (.str l), st)
    | _ => none) := rfl
theorem o_faddr (off : Nat) (x : AOpd) : aop C lim (.faddr off x) ρ st = (match x.ev ρ with
    | .ptr h sz i f => some (.ptr h sz i (f + off), st)
    | .eptr c f => some (.eptr c (f + off), st)
    | _ => none) := rfl
theorem o_fld (off : Nat) (n : Option Nat) (x : AOpd) : aop C lim (.fld off n x) ρ st = (match x.ev ρ with
    | .agg cs => pair2 (rdC cs off n) st
    | _ => none) := rfl
theorem o_iaddr (sz : Nat) (x : AOpd) (i : AOpd) : aop C lim (.iaddr sz x i) ρ st = (pair2 (iadr sz (x.ev ρ) (i.ev ρ)) st) := rfl
theorem o_stri (x : AOpd) (i : AOpd) : aop C lim (.stri x i) ρ st = (match x.ev ρ, aIx (i.ev ρ) with
    | .d (.str l), some n => if 0 ≤ n then (match l[n.toNat]? with | some b => some (.d (.int .u8 b.toNat), st) | none => none) else none
    | _, _ => none) := rfl
theorem o_len (x : AOpd) : aop C lim (.len x) ρ st = (pair2 (alen (x.ev ρ)) st) := rfl
theorem o_slen (x : AOpd) : aop C lim (.slen x) ρ st = (match x.ev ρ with
    | .d (.str l) => some (.d (.int .i64 l.length), st)
    | _ => none) := rfl
theorem o_append (sz : Nat) (x : AOpd) (y : AOpd) : aop C lim (.append sz x y) ρ st = (app st sz (x.ev ρ) (y.ev ρ)) := rfl
theorem o_slice (sz : Nat) (x : AOpd) (lo : Option AOpd) (hi : Option AOpd) : aop C lim (.slice sz x lo hi) ρ st = (pair2 (slc ρ sz (x.ev ρ) lo hi) st) := rfl
theorem o_strs (x : AOpd) (lo : Option AOpd) (hi : Option AOpd) : aop C lim (.strs x lo hi) ρ st = (pair2 (strs ρ (x.ev ρ) lo hi) st) := rfl
theorem o_ext (x : AOpd) (i : Nat) : aop C lim (.ext x i) ρ st = (match x.ev ρ with
    | .tup vs => match vs[i]? with | some v => some (v, st) | none => none
    | _ => none) := rfl
theorem o_mkfn (f : Nat) (caps : List AOpd) : aop C lim (.mkfn f caps) ρ st = (some (.fn f (evL ρ caps), st)) := rfl
theorem o_max (x : AOpd) (y : AOpd) : aop C lim (.max x y) ρ st = (match x.ev ρ, y.ev ρ with
    | .d (.int k a), .d (.int _ b) => some (.d (.int k (if b > a then b else a)), st)
    | _, _ => none) := rfl
theorem o_min (x : AOpd) (y : AOpd) : aop C lim (.min x y) ρ st = (match x.ev ρ, y.ev ρ with
    | .d (.int k a), .d (.int _ b) => some (.d (.int k (if b < a then b else a)), st)
    | _, _ => none) := rfl
theorem o_mksl (sz : Nat) (z : List D) (n : AOpd) (c : AOpd) : aop C lim (.mksl sz z n c) ρ st = (match aIx (n.ev ρ), aIx (c.ev ρ) with
    | some l, some m => if l = m ∧ 0 ≤ l ∧ l ≤ maxApp then some (.hs st.length sz 0 l.toNat, st ++ [.arr sz (List.replicate l.toNat z) true]) else none
    | _, _ => none) := rfl
theorem o_b2s (x : AOpd) : aop C lim (.b2s x) ρ st = (match b2sV st (x.ev ρ) with
    | some l => some (.d (.str l), st)
    | none => none) := rfl
theorem o_pcall (f : AOpd) (args : List AOpd) : aop C lim (.pcall f args) ρ st = (match f.ev ρ with
    | .fn g caps => pair2 (pcal C g (evL ρ args ++ caps)) st
    | _ => none) := rfl
theorem o_lcall (f : AOpd) (args : List AOpd) : aop C lim (.lcall f args) ρ st = (match f.ev ρ with
    | .fn g caps => pair2 (lcal C lim g (evL ρ args ++ caps) st) st
    | _ => none) := rfl
theorem o_call (q : Bool) (ms : List Bool) (f : AOpd) (args : List AOpd) : aop C lim (.call q ms f args) ρ st = (match f.ev ρ with
    | .fn g caps => mcall C q ms g (evL ρ args ++ caps) st
    | _ => none) := rfl
end

/-- Numbers between the two ends are kept as they are. -/
theorem wr_nat {n : Nat} (h : n ≤ 9223372036854775807) : wr (n : Int) = n := wr_id (by omega) (by omega)

section
variable (x y : BitVec 64) (z z' : BitVec 8) (st : St)
@[simp] theorem frz1_int (k : IntKind) (n : Int) : frz1 st (.d (.int k n)) = some (.int k n, st) := rfl
@[simp] theorem brw1_int (k : IntKind) (n : Int) : brw1 st (.d (.int k n)) = some (.d (.int k n), []) := rfl
@[simp] theorem conv1_int (k : IntKind) (n : Int) : conv1 .fz (.d (.int k n)) st = some (.d (.int k n), st) := rfl
@[simp] theorem conv1o_int (q : Nat) (k : IntKind) (n : Int) : conv1 (.ow q) (.d (.int k n)) st = some (.d (.int k n), st) := rfl
@[simp] theorem conv1ob_int (q : Nat) (k : IntKind) (n : Int) : conv1 (.owb q) (.d (.int k n)) st = some (.d (.int k n), st) := rfl
@[simp] theorem frz1_bool (b : Bool) : frz1 st (.d (.bool b)) = some (.bool b, st) := rfl
@[simp] theorem brw1_bool (b : Bool) : brw1 st (.d (.bool b)) = some (.d (.bool b), []) := rfl
@[simp] theorem conv1_bool (b : Bool) : conv1 .fz (.d (.bool b)) st = some (.d (.bool b), st) := rfl
@[simp] theorem conv1o_bool (q : Nat) (b : Bool) : conv1 (.ow q) (.d (.bool b)) st = some (.d (.bool b), st) := rfl
@[simp] theorem conv1ob_bool (q : Nat) (b : Bool) : conv1 (.owb q) (.d (.bool b)) st = some (.d (.bool b), st) := rfl
@[simp] theorem frz1_str (l : List UInt8) : frz1 st (.d (.str l)) = some (.str l, st) := rfl
@[simp] theorem brw1_str (l : List UInt8) : brw1 st (.d (.str l)) = some (.d (.str l), []) := rfl
@[simp] theorem conv1_str (l : List UInt8) : conv1 .fz (.d (.str l)) st = some (.d (.str l), st) := rfl
@[simp] theorem conv1o_str (q : Nat) (l : List UInt8) : conv1 (.ow q) (.d (.str l)) st = some (.d (.str l), st) := rfl
@[simp] theorem conv1ob_str (q : Nat) (l : List UInt8) : conv1 (.owb q) (.d (.str l)) st = some (.d (.str l), st) := rfl
@[simp] theorem noSl_w (x : BitVec 64) : noSl (.d (.w x)) = true := rfl
@[simp] theorem frz1_w (x : BitVec 64) : frz1 st (.d (.w x)) = some (.w x, st) := rfl
@[simp] theorem brw1_w (x : BitVec 64) : brw1 st (.d (.w x)) = some (.d (.w x), []) := rfl
@[simp] theorem conv1_w (x : BitVec 64) : conv1 .fz (.d (.w x)) st = some (.d (.w x), st) := rfl
@[simp] theorem conv1o_w (q : Nat) (x : BitVec 64) : conv1 (.ow q) (.d (.w x)) st = some (.d (.w x), st) := rfl
@[simp] theorem conv1ob_w (q : Nat) (x : BitVec 64) : conv1 (.owb q) (.d (.w x)) st = some (.d (.w x), st) := rfl
@[simp] theorem noSl_u (z : BitVec 8) : noSl (.d (.u z)) = true := rfl
@[simp] theorem frz1_u (z : BitVec 8) : frz1 st (.d (.u z)) = some (.u z, st) := rfl
@[simp] theorem brw1_u (z : BitVec 8) : brw1 st (.d (.u z)) = some (.d (.u z), []) := rfl
@[simp] theorem conv1_u (z : BitVec 8) : conv1 .fz (.d (.u z)) st = some (.d (.u z), st) := rfl
@[simp] theorem conv1o_u (q : Nat) (z : BitVec 8) : conv1 (.ow q) (.d (.u z)) st = some (.d (.u z), st) := rfl
@[simp] theorem conv1ob_u (q : Nat) (z : BitVec 8) : conv1 (.owb q) (.d (.u z)) st = some (.d (.u z), st) := rfl
@[simp] theorem frz1_sl (xs : List (List D)) : frz1 st (.d (.sl xs)) = some (.sl xs, st) := rfl
@[simp] theorem brw1_sl (xs : List (List D)) : brw1 st (.d (.sl xs)) = some (.d (.sl xs), []) := rfl
@[simp] theorem conv1_sl (xs : List (List D)) : conv1 .fz (.d (.sl xs)) st = some (.d (.sl xs), st) := rfl
@[simp] theorem conv1o_sl (q : Nat) (xs : List (List D)) : conv1 (.ow q) (.d (.sl xs)) st = some (.d (.sl xs), st) := rfl
@[simp] theorem conv1ob_sl (q : Nat) (xs : List (List D)) : conv1 (.owb q) (.d (.sl xs)) st = some (.d (.sl xs), st) := rfl
@[simp] theorem conv1_keep (v : AV) : conv1 .keep v st = some (v, st) := rfl
@[simp] theorem conv1_nil : conv1 .fz (.d .nil) st = some (.d (.sl []), st) := rfl
@[simp] theorem conv1_fhs (h sz i n : Nat) : conv1 .fz (.hs h sz i n) st = match frz1 st (.hs h sz i n) with | some (x, st1) => some (.d x, st1) | none => none := rfl
@[simp] theorem conv1_ptr (h sz i n : Nat) : conv1 .fz (.ptr h sz i n) st = some (.ptr h sz i n, st) := rfl
@[simp] theorem conv1o_nil (sz : Nat) : conv1 (.ow sz) (.d .nil) st = some (.hs st.length sz 0 0, st ++ [.arr sz [] true]) := rfl
@[simp] theorem conv1ob_nil (sz : Nat) : conv1 (.owb sz) (.d .nil) st = some (.hs st.length sz 0 0, st ++ [.box []]) := rfl
@[simp] theorem conv1ob_hs (q h sz i n : Nat) : conv1 (.owb q) (.hs h sz i n) st = some (.hs h sz i n, st) := rfl
@[simp] theorem conv1o_hs (q h sz i n : Nat) : conv1 (.ow q) (.hs h sz i n) st = some (.hs h sz i n, st) := rfl
@[simp] theorem frz1_nil : frz1 st (.d .nil) = some (.sl [], st) := rfl
@[simp] theorem frz1_hs (h sz i n : Nat) : frz1 st (.hs h sz i n) = match st[h]? with | some (.arr sz' es _) => (if sz' = sz ∧ i + n ≤ es.length then some (.sl ((es.drop i).take n), st.set h (.arr sz' es false)) else none) | some (.box cs) => frzb st h sz i n cs | _ => none := rfl
@[simp] theorem frza_nil : frza st (.d .nil) = some (.sl [], st) := rfl
@[simp] theorem frza_int (k : IntKind) (n : Int) : frza st (.d (.int k n)) = some (.int k n, st) := rfl
@[simp] theorem frza_bool (b : Bool) : frza st (.d (.bool b)) = some (.bool b, st) := rfl
@[simp] theorem frza_str (l : List UInt8) : frza st (.d (.str l)) = some (.str l, st) := rfl
@[simp] theorem frza_w (x : BitVec 64) : frza st (.d (.w x)) = some (.w x, st) := rfl
@[simp] theorem frza_u (z : BitVec 8) : frza st (.d (.u z)) = some (.u z, st) := rfl
@[simp] theorem frza_sl (xs : List (List D)) : frza st (.d (.sl xs)) = some (.sl xs, st) := rfl
@[simp] theorem frza_hs (h sz i n : Nat) : frza st (.hs h sz i n) = match st[h]? with | some (.arr sz' es _) => (if sz' = sz ∧ i + n ≤ es.length then some (.sl ((es.drop i).take n), st.set h (.arr sz' es false)) else none) | _ => none := rfl
@[simp] theorem lendA_d (L : Nat) (x : D) : lendA L st (.d x) = some x := rfl
@[simp] theorem lendA_hs (L h sz i n : Nat) : lendA L st (.hs h sz i n) = if h < L then (match st[h]? with | some (.arr sz' es _) => if sz' = sz ∧ i + n ≤ es.length then some (.sl ((es.drop i).take n)) else none | _ => none) else none := rfl
@[simp] theorem brw1_nil : brw1 st (.d .nil) = some (.d (.sl []), []) := rfl
@[simp] theorem brw1_ptr (h sz i n : Nat) : brw1 st (.ptr h sz i n) = some (.ptr h sz i n, []) := rfl
@[simp] theorem brw1_fn (f : Nat) (cs : List AV) : brw1 st (.fn f cs) = some (.fn f cs, []) := rfl
@[simp] theorem brw1_hs (h sz i n : Nat) : brw1 st (.hs h sz i n) = match st[h]? with | some (.arr sz' es _) => (if sz' = sz ∧ i + n ≤ es.length then some (.d (.sl ((es.drop i).take n)), [h]) else none) | _ => none := rfl
@[simp] theorem brw_agg (cs : List AV) : brw st (.agg cs) = match brwL st cs with | some (cs', b) => some (.agg cs', b) | none => none := rfl
@[simp] theorem brw_d (d : D) : brw st (.d d) = brw1 st (.d d) := rfl
@[simp] theorem brw_ptr (h sz i n : Nat) : brw st (.ptr h sz i n) = brw1 st (.ptr h sz i n) := rfl
@[simp] theorem brw_hs (h sz i n : Nat) : brw st (.hs h sz i n) = brw1 st (.hs h sz i n) := rfl
@[simp] theorem brw_fn (f : Nat) (cs : List AV) : brw st (.fn f cs) = brw1 st (.fn f cs) := rfl
@[simp] theorem convV_agg (cvs : List CV) (cs : List AV) : convV cvs (.agg cs) st = match convL cvs cs st with | some (cs', st1) => some (.agg cs', st1) | none => none := rfl
@[simp] theorem convV_d (cvs : List CV) (d : D) : convV cvs (.d d) st = conv1 (cvs.headD .fz) (.d d) st := rfl
@[simp] theorem convV_hs (cvs : List CV) (h sz i n : Nat) : convV cvs (.hs h sz i n) st = conv1 (cvs.headD .fz) (.hs h sz i n) st := rfl
@[simp] theorem convV_ptr (cvs : List CV) (h sz i n : Nat) : convV cvs (.ptr h sz i n) st = conv1 (cvs.headD .fz) (.ptr h sz i n) st := rfl
@[simp] theorem oneOf_one (v : AV) : oneOf [v] = v := rfl
@[simp] theorem oneOf_two (v u : AV) (l : List AV) : oneOf (v :: u :: l) = .tup (v :: u :: l) := rfl
@[simp] theorem oneOf_nil : oneOf [] = .tup [] := rfl
@[simp] theorem lend_int (L : Nat) (k : IntKind) (n : Int) : lend L st (.d (.int k n)) = some (.d (.int k n)) := by first | rfl | simp [lend, D.w, D.u]
@[simp] theorem lend_bool (L : Nat) (b : Bool) : lend L st (.d (.bool b)) = some (.d (.bool b)) := by first | rfl | simp [lend, D.w, D.u]
@[simp] theorem lend_str (L : Nat) (l : List UInt8) : lend L st (.d (.str l)) = some (.d (.str l)) := by first | rfl | simp [lend, D.w, D.u]
@[simp] theorem lend_w (L : Nat) (x : BitVec 64) : lend L st (.d (.w x)) = some (.d (.w x)) := by first | rfl | simp [lend, D.w, D.u]
@[simp] theorem lend_u (L : Nat) (z : BitVec 8) : lend L st (.d (.u z)) = some (.d (.u z)) := by first | rfl | simp [lend, D.w, D.u]
@[simp] theorem lend_sl (L : Nat) (xs : List (List D)) : lend L st (.d (.sl xs)) = some (.d (.sl xs)) := by first | rfl | simp [lend, D.w, D.u]
@[simp] theorem lend_nil (L : Nat) : lend L st (.d .nil) = some (.d (.sl [])) := by simp [lend]
@[simp] theorem lend_hs (L h sz i n : Nat) : lend L st (.hs h sz i n) = lendH L st h sz i n := by simp only [lend]
@[simp] theorem lend_ptr (L h sz i n : Nat) : lend L st (.ptr h sz i n) = lendP L st h sz i n := by simp only [lend]
@[simp] theorem lend_eptr (L f : Nat) (c : List D) : lend L st (.eptr c f) = some (.eptr c f) := by simp only [lend]
@[simp] theorem lend_fn (L f : Nat) (cs : List AV) : lend L st (.fn f cs) = match lendL L st cs with | some cs' => some (.fn f cs') | none => none := by simp only [lend]; cases lendL L st cs <;> rfl
@[simp] theorem lend_agg (L : Nat) (cs : List AV) : lend L st (.agg cs) = match lendL L st cs with | some cs' => some (.agg cs') | none => none := by simp only [lend]; cases lendL L st cs <;> rfl
@[simp] theorem lendD_d (L : Nat) (x : D) : lendD L st (.d x) = some x := rfl
@[simp] theorem lendD_hs (L h sz i n : Nat) : lendD L st (.hs h sz i n) = if h < L then (match st[h]? with | some (.arr sz' es _) => if sz' = sz ∧ i + n ≤ es.length then some (.sl ((es.drop i).take n)) else none | some (.box cs) => lendB L st sz i n cs | _ => none) else none := rfl
theorem dL_nil : dL [] = some [] := rfl
theorem dL_dnil (vs : List AV) : dL (.d .nil :: vs) = match dL vs with | some xs => some (.sl [] :: xs) | none => none := rfl
theorem dL_int (k : IntKind) (n : Int) (vs : List AV) : dL (.d (.int k n) :: vs) = match dL vs with | some xs => some (.int k n :: xs) | none => none := rfl
theorem dL_bool (b : Bool) (vs : List AV) : dL (.d (.bool b) :: vs) = match dL vs with | some xs => some (.bool b :: xs) | none => none := rfl
theorem dL_str (l : List UInt8) (vs : List AV) : dL (.d (.str l) :: vs) = match dL vs with | some xs => some (.str l :: xs) | none => none := rfl
theorem dL_w (x : BitVec 64) (vs : List AV) : dL (.d (.w x) :: vs) = match dL vs with | some xs => some (.w x :: xs) | none => none := rfl
theorem dL_u (z : BitVec 8) (vs : List AV) : dL (.d (.u z) :: vs) = match dL vs with | some xs => some (.u z :: xs) | none => none := rfl
theorem dL_sl (l : List (List D)) (vs : List AV) : dL (.d (.sl l) :: vs) = match dL vs with | some xs => some (.sl l :: xs) | none => none := rfl
def hOfO : AO → List Nat
  | .box cs => hOfL cs
  | _ => []
@[simp] theorem hOfO_box (cs : List AV) : hOfO (.box cs) = hOfL cs := rfl
@[simp] theorem hOfO_arr (sz : Nat) (es : List (List D)) (wr : Bool) : hOfO (.arr sz es wr) = [] := rfl
@[simp] theorem hOfO_dead : hOfO .dead = [] := rfl
@[simp] theorem boxH_o (h : Nat) : boxH st h = match st[h]? with | some o => hOfO o | none => [] := by
  unfold boxH
  cases st[h]? with
  | none => rfl
  | some o => cases o <;> rfl
@[simp] theorem renOo_box (g : Nat → Option Nat) (cs : List AV) : renO g (.box cs) = .box (renL g cs) := rfl
@[simp] theorem renOo_arr (g : Nat → Option Nat) (sz : Nat) (es : List (List D)) (wr : Bool) : renO g (.arr sz es wr) = .arr sz es wr := rfl
@[simp] theorem renOo_dead (g : Nat → Option Nat) : renO g .dead = .dead := rfl
@[simp] theorem w_inj : D.w x = D.w y ↔ x = y := by
  constructor
  · intro h
    have : (x.toNat : Int) = y.toNat := by injection h
    exact BitVec.eq_of_toNat_eq (by omega)
  · rintro rfl; rfl
@[simp] theorem u_inj : D.u z = D.u z' ↔ z = z' := by
  constructor
  · intro h
    have : (z.toNat : Int) = z'.toNat := by injection h
    exact BitVec.eq_of_toNat_eq (by omega)
  · rintro rfl; rfl
@[simp] theorem noSl_int (k : IntKind) (n : Int) : noSl (.d (.int k n)) = true := rfl
@[simp] theorem noSl_bool (b : Bool) : noSl (.d (.bool b)) = true := rfl
@[simp] theorem noSl_str (l : List UInt8) : noSl (.d (.str l)) = true := rfl
@[simp] theorem noSl_sl (xs : List (List D)) : noSl (.d (.sl xs)) = false := rfl
@[simp] theorem noSl_hs (h sz i n : Nat) : noSl (.hs h sz i n) = false := rfl
@[simp] theorem noSl_ptr (h sz i n : Nat) : noSl (.ptr h sz i n) = false := rfl
@[simp] theorem noSl_agg (cs : List AV) : noSl (.agg cs) = noSlL cs := rfl
@[simp] theorem noSl_tup (cs : List AV) : noSl (.tup cs) = noSlL cs := rfl
@[simp] theorem noSlL_nil : noSlL [] = true := rfl
@[simp] theorem noSlL_cons (v : AV) (vs : List AV) : noSlL (v :: vs) = (noSl v && noSlL vs) := rfl
@[simp] theorem aIx_int (k : IntKind) (n : Int) : aIx (.d (.int k n)) = some n := rfl
@[simp] theorem aIx_u : aIx (.d (.u z)) = some (z.toNat : Int) := rfl
@[simp] theorem deqL_nil : deqL [] [] [] = some true := rfl
@[simp] theorem deqL_int (k : IntKind) (a b : Int) (ks : List Nat) (xs ys : List AV) : deqL (0 :: ks) (.d (.int k a) :: xs) (.d (.int k b) :: ys) = match deqL ks xs ys with | some r => some (a == b && r) | none => none := by
  simp only [deqL, if_true]; cases deqL ks xs ys <;> rfl
@[simp] theorem deqL_bool (a b : Bool) (ks : List Nat) (xs ys : List AV) : deqL (1 :: ks) (.d (.bool a) :: xs) (.d (.bool b) :: ys) = match deqL ks xs ys with | some r => some (a == b && r) | none => none := rfl
@[simp] theorem deqL_str (a b : List UInt8) (ks : List Nat) (xs ys : List AV) : deqL (2 :: ks) (.d (.str a) :: xs) (.d (.str b) :: ys) = match deqL ks xs ys with | some r => some (a == b && r) | none => none := rfl
@[simp] theorem aIx_w : aIx (.d (.w x)) = some (x.toNat : Int) := rfl
@[simp] theorem deqL_w (ks : List Nat) (xs ys : List AV) : deqL (0 :: ks) (.d (.w x) :: xs) (.d (.w y) :: ys) = match deqL ks xs ys with | some r => some (x == y && r) | none => none := by
  have : ((x.toNat : Int) == (y.toNat : Int)) = (x == y) := by
    by_cases h : x = y
    · subst h; simp
    · have : (x.toNat : Int) ≠ y.toNat := fun e => h (BitVec.eq_of_toNat_eq (by omega))
      rw [beq_eq_false_iff_ne.2 h, beq_eq_false_iff_ne.2 this]
  simp only [D.w, deqL, if_true, this]
  cases deqL ks xs ys <;> rfl
@[simp] theorem o_max_w (C : Orc) (L : Nat) (ρ : Nat → AV) (p q : AOpd) (hp : p.ev ρ = .d (.w x)) (hq : q.ev ρ = .d (.w y)) : aop C L (.max p q) ρ st = some (.d (.w (if x < y then y else x)), st) := by
  simp only [aop, hp, hq, D.w, gt_iff_lt, Int.ofNat_lt, ← BitVec.lt_def]
  split <;> rfl
@[simp] theorem o_min_w (C : Orc) (L : Nat) (ρ : Nat → AV) (p q : AOpd) (hp : p.ev ρ = .d (.w x)) (hq : q.ev ρ = .d (.w y)) : aop C L (.min p q) ρ st = some (.d (.w (if y < x then y else x)), st) := by
  simp only [aop, hp, hq, D.w, Int.ofNat_lt, ← BitVec.lt_def]
  split <;> rfl
end
/-- A run that ends, with what holds of its end. -/
def Ev {α : Type} (o : Option α) (Q : α → Prop) : Prop := ∃ r, o = some r ∧ Q r
@[simp] theorem Ev_some {α : Type} (r : α) (Q : α → Prop) : Ev (some r) Q ↔ Q r := by simp [Ev]
theorem Ev.mono {α : Type} {o : Option α} {Q Q' : α → Prop} (h : Ev o Q) (hq : ∀ r, Q r → Q' r) : Ev o Q' := by
  obtain ⟨r, h1, h2⟩ := h; exact ⟨r, h1, hq r h2⟩
attribute [simp] go_skip go_nil go_ret go_seq go_block go_inBlock go_exit go_loop go_kp go_cond go_reg aops_cons aops_guard aops_nil o_mv o_bin o_conv ev_t ev_k ev_f put_eget put_none eget_cons eget_nil dbin_d pair2_some pair2_none keep aexit
attribute [simp] o_ldg o_callg hd1 apart
attribute [simp] dL_nil dL_dnil dL_int dL_bool dL_str dL_w dL_u dL_sl o_dsl o_ldb rdb fillP
attribute [simp] o_bslq o_isnil fillQ o_brow o_appb o_slice0 o_mkrow appb cellsY rowCells frzb frzaL chunk lendAC lendB
attribute [simp] o_pick o_alloc o_box o_build o_bslice o_load o_store o_nilc o_eqb o_eqs o_un o_convs o_faddr o_fld o_iaddr o_stri o_len o_slen o_append o_slice o_strs o_ext o_mkfn o_mksl o_b2s o_pcall o_lcall o_call
attribute [simp] w_add w_sub w_mul w_quo w_rem w_and w_or w_xor w_not w_neg w_eql w_neq w_lss w_leq w_gtr w_geq w_shl w_shr w_shli w_shri i_add i_sub i_mul i_quo i_rem i_eql i_neq i_lss i_leq i_gtr i_geq i_neg b_not cnv_wi cnv_iw cnv_ww cnv_ii cnv_iu cnv_ui
attribute [simp] head headV gc reach ddup boxHs pickO hOfL hOf zipE renL ren renS idx evL args resV convVs convL
attribute [simp] lendC lendP lendH lendL lcal
attribute [simp] List.take_of_length_le
attribute [simp] pcal brwA brwL setAll frzAll back rd rdC rdD alen slc bnds orV AM.strs iadr wrt frzL fillC fillE app elemsOf AV.cells sol solL okSz
end Go.Proofs.YtplgdddfhjpojaaGreat.AM

namespace Go.Proofs.YtplgdddfhjpojaaGreat.AM
open Go
/-- laws.big -/
def F1_c : AC :=
 (.seq (.reg false [⟨some 4, none, .mv (.k (.bool false))⟩] [0, 1])
 (.seq (.reg false [⟨some 5, none, .mv (.t 0)⟩, ⟨some 6, none, .len (.t 5)⟩, ⟨some 7, none, .bin .gtr (.t 6) (.k (.int .i64 1048576))⟩, ⟨some 8, none, .mv (.t 7)⟩, ⟨some 9, (some (8, false)), .mv (.t 1)⟩, ⟨some 10, (some (8, false)), .len (.t 9)⟩, ⟨some 11, (some (8, false)), .mv (.t 0)⟩, ⟨some 12, (some (8, false)), .len (.t 11)⟩, ⟨some 13, (some (8, false)), .bin .sub (.k (.int .i64 1048576)) (.t 12)⟩, ⟨some 14, (some (8, false)), .bin .gtr (.t 10) (.t 13)⟩, ⟨some 15, none, .pick (.t 8) (.k (.bool true)) (.t 14)⟩, ⟨some 4, none, .mv (.t 15)⟩] [4])
 .ret))
def F1 : AFunc := ⟨2, [.t 4], [], F1_c⟩
/-- (*spec.l1Cur).next -/
def F2_t0 : AC :=
 (.seq (.reg false [⟨some 25, none, .mv (.t 0)⟩, ⟨some 26, none, .nilc (.t 25)⟩, ⟨some 27, none, .faddr 1 (.t 26)⟩, ⟨some 28, none, .load none (.t 27)⟩, ⟨some 29, none, .bin .add (.t 28) (.k (.int .i64 1))⟩, ⟨some 30, none, .nilc (.t 25)⟩, ⟨some 31, none, .faddr 1 (.t 30)⟩, ⟨none, none, .store 1 (.t 31) (.t 29)⟩] [0, 3])
 (.seq (.reg false [⟨some 32, none, .mv (.t 0)⟩, ⟨some 33, none, .mv (.t 0)⟩, ⟨some 34, none, .nilc (.t 33)⟩, ⟨some 35, none, .faddr 2 (.t 34)⟩, ⟨some 36, none, .load none (.t 35)⟩, ⟨some 37, none, .bin .mul (.t 36) (.k (.w 6364136223846793005#64))⟩, ⟨some 38, none, .mv (.t 3)⟩, ⟨some 39, none, .conv .u64 (.t 38)⟩, ⟨some 40, none, .bin .add (.t 37) (.t 39)⟩, ⟨some 41, none, .bin .add (.t 40) (.k (.w 1442695040888963407#64))⟩, ⟨some 42, none, .nilc (.t 32)⟩, ⟨some 43, none, .faddr 2 (.t 42)⟩, ⟨none, none, .store 1 (.t 43) (.t 41)⟩] [0, 3])
 (.seq (.seq (.reg true [⟨some 44, none, .mv (.t 0)⟩, ⟨some 45, none, .nilc (.t 44)⟩, ⟨some 46, none, .faddr 1 (.t 45)⟩, ⟨some 47, none, .load none (.t 46)⟩, ⟨some 48, none, .mv (.t 0)⟩, ⟨some 49, none, .nilc (.t 48)⟩, ⟨some 50, none, .faddr 0 (.t 49)⟩, ⟨some 51, none, .load none (.t 50)⟩, ⟨some 52, none, .len (.t 51)⟩, ⟨some 53, none, .bin .leq (.t 47) (.t 52)⟩] [0, 3, 53])
 (.cond (.t 53) (.seq (.reg false [⟨some 54, none, .mv (.t 3)⟩, ⟨some 2, none, .mv (.t 54)⟩] [2])
  .ret) .skip))
 (.seq (.reg false [⟨some 55, none, .mv (.t 0)⟩, ⟨some 56, none, .nilc (.t 55)⟩, ⟨some 57, none, .faddr 2 (.t 56)⟩, ⟨some 58, none, .load none (.t 57)⟩, ⟨some 59, none, .bin .shr (.t 58) (.k (.w 40#64))⟩, ⟨some 60, none, .bin .and (.t 59) (.k (.w 255#64))⟩, ⟨some 61, none, .conv .i64 (.t 60)⟩, ⟨some 2, none, .mv (.t 61)⟩] [2])
 .ret))))
def F2_c : AC :=
 (.seq (.reg false [⟨some 2, none, .mv (.k (.int .i64 0))⟩] [0])
 (.seq (.reg false [⟨some 3, none, .mv (.k (.int .i64 0))⟩] [0, 3])
 (.seq (.seq (.reg true [⟨some 4, none, .mv (.t 0)⟩, ⟨some 5, none, .nilc (.t 4)⟩, ⟨some 6, none, .faddr 1 (.t 5)⟩, ⟨some 7, none, .load none (.t 6)⟩, ⟨some 8, none, .mv (.t 0)⟩, ⟨some 9, none, .nilc (.t 8)⟩, ⟨some 10, none, .faddr 0 (.t 9)⟩, ⟨some 11, none, .load none (.t 10)⟩, ⟨some 12, none, .len (.t 11)⟩, ⟨some 13, none, .bin .lss (.t 7) (.t 12)⟩] [0, 3, 13])
 (.cond (.t 13) (.reg true [⟨some 14, none, .mv (.t 0)⟩, ⟨some 15, none, .nilc (.t 14)⟩, ⟨some 16, none, .faddr 0 (.t 15)⟩, ⟨some 17, none, .load none (.t 16)⟩, ⟨some 18, none, .mv (.t 0)⟩, ⟨some 19, none, .nilc (.t 18)⟩, ⟨some 20, none, .faddr 1 (.t 19)⟩, ⟨some 21, none, .load none (.t 20)⟩, ⟨some 22, none, .iaddr 1 (.t 17) (.t 21)⟩, ⟨some 23, none, .load none (.t 22)⟩, ⟨some 24, none, .conv .i64 (.t 23)⟩, ⟨some 3, none, .mv (.t 24)⟩] [0, 3]) .skip))
 (.kp [(0, .keep), (3, .keep)] F2_t0))))
def F2 : AFunc := ⟨1, [.t 2], [], F2_c⟩
/-- (*spec.l1Cur).pick -/
def F3_t0 : AC :=
 (.seq (.reg false [⟨some 17, none, .mv (.t 5)⟩, ⟨some 18, none, .mv (.t 1)⟩, ⟨some 19, none, .bin .rem (.t 17) (.t 18)⟩, ⟨some 4, none, .mv (.t 19)⟩] [4])
 .ret)
def F3_c : AC :=
 (.seq (.reg false [⟨some 4, none, .mv (.k (.int .i64 0))⟩] [0, 1])
 (.seq (.seq (.reg false [⟨some 6, none, .mv (.t 1)⟩, ⟨some 7, none, .bin .leq (.t 6) (.k (.int .i64 1))⟩] [0, 1, 7])
 (.cond (.t 7) (.seq (.reg false [⟨some 4, none, .mv (.k (.int .i64 0))⟩] [4])
  .ret) .skip))
 (.seq (.reg false [⟨some 8, none, .mv (.t 0)⟩, ⟨some 9, none, .call false [] (.f 2) [.t 8]⟩, ⟨some 5, none, .mv (.t 9)⟩] [0, 1, 5])
 (.seq (.seq (.reg false [⟨some 10, none, .mv (.t 1)⟩, ⟨some 11, none, .bin .gtr (.t 10) (.k (.int .i64 200))⟩] [0, 1, 5, 11])
 (.cond (.t 11) (.reg false [⟨some 12, none, .mv (.t 5)⟩, ⟨some 13, none, .bin .mul (.t 12) (.k (.int .i64 256))⟩, ⟨some 14, none, .mv (.t 0)⟩, ⟨some 15, none, .call false [] (.f 2) [.t 14]⟩, ⟨some 16, none, .bin .add (.t 13) (.t 15)⟩, ⟨some 5, none, .mv (.t 16)⟩] [1, 5]) .skip))
 (.kp [(1, .keep), (5, .keep)] F3_t0)))))
def F3 : AFunc := ⟨2, [.t 4], [], F3_c⟩
/-- (*spec.l1Cur).among -/
def F4_c : AC :=
 (.seq (.reg false [⟨some 4, none, .mv (.k (.int .i64 0))⟩] [0, 1])
 (.seq (.reg false [⟨some 5, none, .mv (.t 1)⟩, ⟨some 6, none, .mv (.t 0)⟩, ⟨some 7, none, .mv (.t 1)⟩, ⟨some 8, none, .len (.t 7)⟩, ⟨some 9, none, .call false [] (.f 3) [.t 6, .t 8]⟩, ⟨some 10, none, .iaddr 1 (.t 5) (.t 9)⟩, ⟨some 11, none, .load none (.t 10)⟩, ⟨some 4, none, .mv (.t 11)⟩] [4])
 .ret))
def F4 : AFunc := ⟨2, [.t 4], [], F4_c⟩
/-- (*spec.l1Cur).one -/
def F5_c : AC :=
 (.seq (.reg false [⟨some 4, none, .mv (.k (.bool false))⟩] [0, 1])
 (.seq (.reg false [⟨some 5, none, .mv (.t 0)⟩, ⟨some 6, none, .mv (.t 1)⟩, ⟨some 7, none, .call false [] (.f 3) [.t 5, .t 6]⟩, ⟨some 8, none, .bin .eql (.t 7) (.k (.int .i64 0))⟩, ⟨some 4, none, .mv (.t 8)⟩] [4])
 .ret))
def F5 : AFunc := ⟨2, [.t 4], [], F5_c⟩
/-- spec.l1Cut -/
def F6_b0 : AC := (.seq (.seq (.reg false [⟨some 7, none, .mv (.t 6)⟩, ⟨some 8, none, .mv (.t 0)⟩, ⟨some 9, none, .bin .lss (.t 7) (.t 8)⟩] [0, 1, 5, 6, 9])
   (.cond (.t 9) .skip (.exit 0)))
   (.seq (.block 1 (.reg false [⟨some 12, none, .mv (.t 5)⟩, ⟨some 13, none, .mv (.t 1)⟩, ⟨some 14, none, .mv (.t 6)⟩, ⟨some 15, none, .conv .u64 (.t 14)⟩, ⟨some 16, none, .bin .shl (.k (.w 1#64)) (.t 15)⟩, ⟨some 17, none, .bin .and (.t 13) (.t 16)⟩, ⟨some 18, none, .bin .or (.t 12) (.t 17)⟩, ⟨some 5, none, .mv (.t 18)⟩] [0, 1, 5, 6]))
   (.reg false [⟨some 10, none, .mv (.t 6)⟩, ⟨some 11, none, .bin .add (.t 10) (.k (.int .i64 1))⟩, ⟨some 6, none, .mv (.t 11)⟩] [0, 1, 5, 6])))
def F6_l0 : AC := F6_b0
@[simp] theorem u6_0 (T : Nat → Option AFunc) (X : Orc) (F : AFunc) (m : Nat) (K : List AT) (e : Env) (st : St) : go T X F m (.code F6_l0 :: K) e st = go T X F m (.code F6_b0 :: K) e st := rfl
def F6_t0 : AC :=
 (.seq (.reg false [⟨some 19, none, .mv (.t 5)⟩, ⟨some 4, none, .mv (.t 19)⟩] [4])
 .ret)
def F6_c : AC :=
 (.seq (.reg false [⟨some 4, none, .mv (.k (.w 0#64))⟩] [0, 1])
 (.seq (.reg false [⟨some 5, none, .mv (.k (.w 0#64))⟩] [0, 1, 5])
 (.seq (.seq (.reg false [⟨some 6, none, .mv (.k (.int .i64 0))⟩] [0, 1, 5, 6])
 (.block 0 (.loop [(0, .keep), (1, .keep), (5, .keep), (6, .keep)] F6_l0)))
 (.kp [(5, .keep)] F6_t0))))
def F6 : AFunc := ⟨2, [.t 4], [], F6_c⟩
/-- (*spec.l1Cur).number -/
def F7_t0 : AC :=
 (.seq (.reg false [⟨some 64, none, .mv (.t 9)⟩, ⟨some 65, none, .mv (.t 10)⟩, ⟨some 66, none, .build [.d (.int .i64 0), .d (.w 0#64)] [(0, 1, .t 65)]⟩, ⟨some 67, none, .bslice 2 [(.int .i64 0), (.w 0#64)] 1 [(0, .t 66)]⟩, ⟨some 68, none, .append 2 (.t 64) (.t 67)⟩, ⟨some 8, none, .mv (.t 68)⟩] [8])
 .ret)
def F7_c : AC :=
 (.seq (.reg false [⟨some 8, none, .mv (.k .nil)⟩] [0, 1, 2, 3])
 (.seq (.seq (.reg false [⟨some 11, none, .mv (.t 3)⟩, ⟨some 12, none, .bin .eql (.t 11) (.k (.int .i64 0))⟩, ⟨some 13, none, .mv (.t 12)⟩, ⟨some 14, (some (13, false)), .mv (.t 0)⟩, ⟨some 15, (some (13, false)), .call false [] (.f 5) [.t 14, .k (.int .i64 4)]⟩, ⟨some 16, none, .pick (.t 13) (.k (.bool true)) (.t 15)⟩] [0, 1, 2, 3, 16])
 (.cond (.t 16) (.seq (.seq (.reg false [⟨some 17, none, .mv (.t 0)⟩, ⟨some 18, none, .call false [] (.f 5) [.t 17, .k (.int .i64 2)]⟩] [0, 1, 2, 18])
  (.cond (.t 18) (.seq (.reg false [⟨some 19, none, .mv (.t 1)⟩, ⟨some 20, none, .mv (.t 0)⟩, ⟨some 21, none, .call false [] (.f 3) [.t 20, .k (.int .i64 9)]⟩, ⟨some 22, none, .conv .u64 (.t 21)⟩, ⟨some 23, none, .pcall (.f 6) [.t 19, .t 22]⟩, ⟨some 24, none, .build [.d (.int .i64 0), .d (.w 0#64)] [(0, 1, .k (.int .i64 1)), (1, 1, .t 23)]⟩, ⟨some 25, none, .bslice 2 [(.int .i64 0), (.w 0#64)] 1 [(0, .t 24)]⟩, ⟨some 8, none, .mv (.t 25)⟩] [8])
   .ret) .skip))
  (.seq (.reg false [⟨some 26, none, .mv (.t 0)⟩, ⟨some 27, none, .mv (.t 2)⟩, ⟨some 28, none, .call false [] (.f 3) [.t 26, .t 27]⟩, ⟨some 29, none, .conv .u64 (.t 28)⟩, ⟨some 30, none, .build [.d (.int .i64 0), .d (.w 0#64)] [(0, 1, .k (.int .i64 2)), (1, 1, .t 29)]⟩, ⟨some 31, none, .bslice 2 [(.int .i64 0), (.w 0#64)] 1 [(0, .t 30)]⟩, ⟨some 8, none, .mv (.t 31)⟩] [8])
  .ret)) .skip))
 (.seq (.seq (.reg false [⟨some 32, none, .mv (.t 0)⟩, ⟨some 33, none, .call false [] (.f 5) [.t 32, .k (.int .i64 7)]⟩] [0, 1, 2, 3, 33])
 (.cond (.t 33) (.seq (.reg false [⟨some 34, none, .mv (.t 0)⟩, ⟨some 35, none, .mv (.t 1)⟩, ⟨some 36, none, .mv (.t 2)⟩, ⟨some 37, none, .mv (.t 3)⟩, ⟨some 38, none, .bin .sub (.t 37) (.k (.int .i64 1))⟩, ⟨some 39, none, .call false [] (.f 7) [.t 34, .t 35, .t 36, .t 38]⟩, ⟨some 40, none, .build [.d (.int .i64 0), .d (.w 0#64)] [(0, 1, .k (.int .i64 13))]⟩, ⟨some 41, none, .bslice 2 [(.int .i64 0), (.w 0#64)] 1 [(0, .t 40)]⟩, ⟨some 42, none, .append 2 (.t 39) (.t 41)⟩, ⟨some 8, none, .mv (.t 42)⟩] [8])
  .ret) .skip))
 (.seq (.reg false [⟨some 43, none, .mv (.t 0)⟩, ⟨some 44, none, .mv (.t 1)⟩, ⟨some 45, none, .mv (.t 2)⟩, ⟨some 46, none, .mv (.t 3)⟩, ⟨some 47, none, .bin .sub (.t 46) (.k (.int .i64 1))⟩, ⟨some 48, none, .call false [] (.f 7) [.t 43, .t 44, .t 45, .t 47]⟩, ⟨some 49, none, .mv (.t 0)⟩, ⟨some 50, none, .mv (.t 1)⟩, ⟨some 51, none, .mv (.t 2)⟩, ⟨some 52, none, .mv (.t 3)⟩, ⟨some 53, none, .bin .sub (.t 52) (.k (.int .i64 1))⟩, ⟨some 54, none, .call false [] (.f 7) [.t 49, .t 50, .t 51, .t 53]⟩, ⟨some 55, none, .append 2 (.t 48) (.t 54)⟩, ⟨some 9, none, .mv (.t 55)⟩] [0, 9])
 (.seq (.reg false [⟨some 56, none, .mv (.t 0)⟩, ⟨some 57, none, .bslice 1 [(.int .i64 0)] 9 [(0, .k (.int .i64 3)), (1, .k (.int .i64 3)), (2, .k (.int .i64 3)), (3, .k (.int .i64 4)), (4, .k (.int .i64 4)), (5, .k (.int .i64 5)), (6, .k (.int .i64 8)), (7, .k (.int .i64 9)), (8, .k (.int .i64 10))]⟩, ⟨some 58, none, .call false [] (.f 4) [.t 56, .t 57]⟩, ⟨some 10, none, .mv (.t 58)⟩] [0, 9, 10])
 (.seq (.seq (.reg false [⟨some 59, none, .mv (.t 0)⟩, ⟨some 60, none, .call false [] (.f 5) [.t 59, .k (.int .i64 6)]⟩] [0, 9, 10, 60])
 (.cond (.t 60) (.reg false [⟨some 61, none, .mv (.t 0)⟩, ⟨some 62, none, .bslice 1 [(.int .i64 0)] 4 [(0, .k (.int .i64 6)), (1, .k (.int .i64 7)), (2, .k (.int .i64 11)), (3, .k (.int .i64 12))]⟩, ⟨some 63, none, .call false [] (.f 4) [.t 61, .t 62]⟩, ⟨some 10, none, .mv (.t 63)⟩] [9, 10]) .skip))
 (.kp [(9, .keep), (10, .keep)] F7_t0)))))))
def F7 : AFunc := ⟨4, [.t 8], [[.ow 2]], F7_c⟩
/-- (*spec.l1Cur).asked -/
def F8_c : AC :=
 (.seq (.reg false [⟨some 8, none, .mv (.k .nil)⟩] [0, 1, 2, 3])
 (.seq (.seq (.reg false [⟨some 11, none, .mv (.t 0)⟩, ⟨some 12, none, .call false [] (.f 5) [.t 11, .k (.int .i64 20)]⟩] [0, 1, 2, 3, 12])
 (.cond (.t 12) (.seq (.reg false [⟨some 13, none, .mv (.t 0)⟩, ⟨some 14, none, .call false [] (.f 3) [.t 13, .k (.int .i64 2)]⟩, ⟨some 15, none, .conv .u64 (.t 14)⟩, ⟨some 16, none, .build [.d (.int .i64 0), .d (.w 0#64)] [(0, 1, .k (.int .i64 20)), (1, 1, .t 15)]⟩, ⟨some 17, none, .bslice 2 [(.int .i64 0), (.w 0#64)] 1 [(0, .t 16)]⟩, ⟨some 8, none, .mv (.t 17)⟩] [8])
  .ret) .skip))
 (.seq (.seq (.reg false [⟨some 18, none, .mv (.t 3)⟩, ⟨some 19, none, .bin .gtr (.t 18) (.k (.int .i64 0))⟩, ⟨some 20, none, .mv (.t 19)⟩, ⟨some 21, (some (20, true)), .mv (.t 0)⟩, ⟨some 22, (some (20, true)), .call false [] (.f 5) [.t 21, .k (.int .i64 4)]⟩, ⟨some 23, none, .pick (.t 20) (.t 22) (.k (.bool false))⟩] [0, 1, 2, 3, 23])
 (.cond (.t 23) (.seq (.reg false [⟨some 24, none, .mv (.t 0)⟩, ⟨some 25, none, .mv (.t 1)⟩, ⟨some 26, none, .mv (.t 2)⟩, ⟨some 27, none, .mv (.t 3)⟩, ⟨some 28, none, .bin .sub (.t 27) (.k (.int .i64 1))⟩, ⟨some 29, none, .call false [] (.f 8) [.t 24, .t 25, .t 26, .t 28]⟩, ⟨some 30, none, .build [.d (.int .i64 0), .d (.w 0#64)] [(0, 1, .k (.int .i64 19))]⟩, ⟨some 31, none, .bslice 2 [(.int .i64 0), (.w 0#64)] 1 [(0, .t 30)]⟩, ⟨some 32, none, .append 2 (.t 29) (.t 31)⟩, ⟨some 8, none, .mv (.t 32)⟩] [8])
  .ret) .skip))
 (.seq (.seq (.reg false [⟨some 33, none, .mv (.t 3)⟩, ⟨some 34, none, .bin .gtr (.t 33) (.k (.int .i64 0))⟩, ⟨some 35, none, .mv (.t 34)⟩, ⟨some 36, (some (35, true)), .mv (.t 0)⟩, ⟨some 37, (some (35, true)), .call false [] (.f 5) [.t 36, .k (.int .i64 2)]⟩, ⟨some 38, none, .pick (.t 35) (.t 37) (.k (.bool false))⟩] [0, 1, 2, 3, 38])
 (.cond (.t 38) (.seq (.reg false [⟨some 39, none, .mv (.t 0)⟩, ⟨some 40, none, .mv (.t 1)⟩, ⟨some 41, none, .mv (.t 2)⟩, ⟨some 42, none, .mv (.t 3)⟩, ⟨some 43, none, .bin .sub (.t 42) (.k (.int .i64 1))⟩, ⟨some 44, none, .call false [] (.f 8) [.t 39, .t 40, .t 41, .t 43]⟩, ⟨some 45, none, .mv (.t 0)⟩, ⟨some 46, none, .mv (.t 1)⟩, ⟨some 47, none, .mv (.t 2)⟩, ⟨some 48, none, .mv (.t 3)⟩, ⟨some 49, none, .bin .sub (.t 48) (.k (.int .i64 1))⟩, ⟨some 50, none, .call false [] (.f 8) [.t 45, .t 46, .t 47, .t 49]⟩, ⟨some 51, none, .append 2 (.t 44) (.t 50)⟩, ⟨some 9, none, .mv (.t 51)⟩] [0, 9])
  (.seq (.reg false [⟨some 52, none, .mv (.t 9)⟩, ⟨some 53, none, .mv (.t 0)⟩, ⟨some 54, none, .bslice 1 [(.int .i64 0)] 2 [(0, .k (.int .i64 17)), (1, .k (.int .i64 18))]⟩, ⟨some 55, none, .call false [] (.f 4) [.t 53, .t 54]⟩, ⟨some 56, none, .build [.d (.int .i64 0), .d (.w 0#64)] [(0, 1, .t 55)]⟩, ⟨some 57, none, .bslice 2 [(.int .i64 0), (.w 0#64)] 1 [(0, .t 56)]⟩, ⟨some 58, none, .append 2 (.t 52) (.t 57)⟩, ⟨some 8, none, .mv (.t 58)⟩] [8])
  .ret)) .skip))
 (.seq (.reg false [⟨some 59, none, .mv (.t 0)⟩, ⟨some 60, none, .mv (.t 1)⟩, ⟨some 61, none, .mv (.t 2)⟩, ⟨some 62, none, .call false [] (.f 7) [.t 59, .t 60, .t 61, .k (.int .i64 1)]⟩, ⟨some 63, none, .mv (.t 0)⟩, ⟨some 64, none, .mv (.t 1)⟩, ⟨some 65, none, .mv (.t 2)⟩, ⟨some 66, none, .mv (.t 0)⟩, ⟨some 67, none, .call false [] (.f 3) [.t 66, .k (.int .i64 2)]⟩, ⟨some 68, none, .call false [] (.f 7) [.t 63, .t 64, .t 65, .t 67]⟩, ⟨some 69, none, .append 2 (.t 62) (.t 68)⟩, ⟨some 10, none, .mv (.t 69)⟩] [0, 10])
 (.seq (.reg false [⟨some 70, none, .mv (.t 10)⟩, ⟨some 71, none, .mv (.t 0)⟩, ⟨some 72, none, .bslice 1 [(.int .i64 0)] 4 [(0, .k (.int .i64 14)), (1, .k (.int .i64 15)), (2, .k (.int .i64 15)), (3, .k (.int .i64 16))]⟩, ⟨some 73, none, .call false [] (.f 4) [.t 71, .t 72]⟩, ⟨some 74, none, .build [.d (.int .i64 0), .d (.w 0#64)] [(0, 1, .t 73)]⟩, ⟨some 75, none, .bslice 2 [(.int .i64 0), (.w 0#64)] 1 [(0, .t 74)]⟩, ⟨some 76, none, .append 2 (.t 70) (.t 75)⟩, ⟨some 8, none, .mv (.t 76)⟩] [8])
 .ret))))))
def F8 : AFunc := ⟨4, [.t 8], [[.ow 2]], F8_c⟩
/-- (*spec.l1Cur).command -/
def F84_t0 : AC :=
 (.reg false [⟨some 19, none, .mv (.t 8)⟩, ⟨some 20, none, .bin .add (.t 19) (.k (.int .i64 1))⟩, ⟨some 8, none, .mv (.t 20)⟩] [0, 1, 2, 6, 7, 8])
def F84_b0 : AC := (.seq (.seq (.reg false [⟨some 16, none, .mv (.t 8)⟩, ⟨some 17, none, .mv (.t 2)⟩, ⟨some 18, none, .bin .lss (.t 16) (.t 17)⟩] [0, 1, 2, 6, 7, 8, 18])
   (.cond (.t 18) .skip (.exit 0)))
   (.seq (.block 1 (.seq (.reg false [⟨some 21, none, .mv (.t 0)⟩, ⟨some 22, none, .call false [] (.f 5) [.t 21, .k (.int .i64 2)]⟩] [0, 1, 2, 6, 7, 8, 22])
    (.cond (.t 22) (.reg true [⟨some 23, none, .faddr 1 (.t 7)⟩, ⟨some 24, none, .ldg none (.t 23) (.t 7)⟩, ⟨some 25, none, .mv (.t 8)⟩, ⟨some 26, none, .mv (.t 0)⟩, ⟨some 27, none, .mv (.t 1)⟩, ⟨some 28, none, .mv (.t 2)⟩, ⟨some 29, none, .callg [] (.f 7) [.t 26, .t 27, .t 28, .k (.int .i64 1)] (.t 7)⟩, ⟨some 30, none, .build [.d (.int .i64 0), .d .nil] [(0, 1, .t 25), (1, 1, .t 29)]⟩, ⟨some 31, none, .bslq 2 [(.int .i64 0), .nil] 1 [(0, .t 30)]⟩, ⟨some 32, none, .append 2 (.t 24) (.t 31)⟩, ⟨some 33, none, .faddr 1 (.t 7)⟩, ⟨none, none, .store 1 (.t 33) (.t 32)⟩] [0, 1, 2, 6, 7, 8]) .skip)))
   (.kp [(0, .keep), (1, .keep), (2, .keep), (6, .keep), (7, .keep), (8, .keep)] F84_t0)))
def F84_l0 : AC := F84_b0
@[simp] theorem u84_0 (T : Nat → Option AFunc) (X : Orc) (F : AFunc) (m : Nat) (K : List AT) (e : Env) (st : St) : go T X F m (.code F84_l0 :: K) e st = go T X F m (.code F84_b0 :: K) e st := rfl
def F84_t1 : AC :=
 (.seq (.reg false [⟨some 34, none, .load (some 2) (.t 7)⟩, ⟨none, none, .store 2 (.t 6) (.t 34)⟩] [6])
 .ret)
def F84_c : AC :=
 (.seq (.reg false [⟨some 6, none, .alloc [.d .nil, .d .nil]⟩] [0, 1, 2, 6])
 (.seq (.reg false [⟨some 9, none, .mv (.t 0)⟩, ⟨some 10, none, .mv (.t 1)⟩, ⟨some 11, none, .mv (.t 2)⟩, ⟨some 12, none, .mv (.t 0)⟩, ⟨some 13, none, .call false [] (.f 3) [.t 12, .k (.int .i64 2)]⟩, ⟨some 14, none, .call false [] (.f 8) [.t 9, .t 10, .t 11, .t 13]⟩, ⟨some 15, none, .build [.d .nil, .d .nil] [(0, 1, .t 14)]⟩, ⟨some 7, none, .alloc [.d .nil, .d .nil]⟩, ⟨none, none, .store 2 (.t 7) (.t 15)⟩] [0, 1, 2, 6, 7])
 (.seq (.seq (.reg false [⟨some 8, none, .mv (.k (.int .i64 0))⟩] [0, 1, 2, 6, 7, 8])
 (.block 0 (.loop [(0, .keep), (1, .keep), (2, .keep), (6, .keep), (7, .keep), (8, .keep)] F84_l0)))
 (.kp [(6, .keep), (7, .keep)] F84_t1))))
def F84 : AFunc := ⟨3, [.cell 6 (some 2)], [[.fz, .ow 2]], F84_c⟩
/-- (*spec.l1Cur).progOf -/
def F85_b0 : AC := (.seq (.seq (.reg false [⟨some 30, none, .mv (.t 8)⟩, ⟨some 31, none, .bin .gtr (.t 30) (.k (.int .i64 0))⟩] [0, 1, 2, 6, 7, 8, 31])
   (.cond (.t 31) .skip (.exit 0)))
   (.seq (.block 1 (.reg true [⟨some 34, none, .faddr 3 (.t 7)⟩, ⟨some 35, none, .ldg none (.t 34) (.t 7)⟩, ⟨some 36, none, .mv (.t 0)⟩, ⟨some 37, none, .mv (.t 1)⟩, ⟨some 38, none, .mv (.t 2)⟩, ⟨some 39, none, .callg [] (.f 84) [.t 36, .t 37, .t 38] (.t 7)⟩, ⟨some 40, none, .brow 2 [.nil, .nil] 1 [(0, .t 39)]⟩, ⟨some 41, none, .appb 2 (.t 35) (.t 40)⟩, ⟨some 42, none, .faddr 3 (.t 7)⟩, ⟨none, none, .store 1 (.t 42) (.t 41)⟩] [0, 1, 2, 6, 7, 8]))
   (.reg false [⟨some 32, none, .mv (.t 8)⟩, ⟨some 33, none, .bin .sub (.t 32) (.k (.int .i64 1))⟩, ⟨some 8, none, .mv (.t 33)⟩] [0, 1, 2, 6, 7, 8])))
def F85_l0 : AC := F85_b0
@[simp] theorem u85_0 (T : Nat → Option AFunc) (X : Orc) (F : AFunc) (m : Nat) (K : List AT) (e : Env) (st : St) : go T X F m (.code F85_l0 :: K) e st = go T X F m (.code F85_b0 :: K) e st := rfl
def F85_t0 : AC :=
 (.seq (.reg false [⟨some 43, none, .load (some 4) (.t 7)⟩, ⟨none, none, .store 4 (.t 6) (.t 43)⟩] [6])
 .ret)
def F85_t1 : AC :=
 (.seq (.seq (.reg false [⟨some 27, none, .mv (.t 0)⟩, ⟨some 28, none, .call false [] (.f 3) [.t 27, .k (.int .i64 3)]⟩, ⟨some 29, none, .bin .add (.k (.int .i64 1)) (.t 28)⟩, ⟨some 8, none, .mv (.t 29)⟩] [0, 1, 2, 6, 7, 8])
 (.block 0 (.loop [(0, .keep), (1, .keep), (2, .keep), (6, .keep), (7, .keep), (8, .keep)] F85_l0)))
 (.kp [(6, .keep), (7, .keep)] F85_t0))
def F85_c : AC :=
 (.seq (.reg false [⟨some 6, none, .alloc [.d (.int .i64 0), .d (.int .i64 0), .d .nil, .d .nil]⟩] [0, 1, 2, 6])
 (.seq (.reg false [⟨some 9, none, .mv (.t 1)⟩, ⟨some 10, none, .mv (.t 2)⟩, ⟨some 11, none, .build [.d (.int .i64 0), .d (.int .i64 0), .d .nil, .d .nil] [(0, 1, .t 9), (1, 1, .t 10)]⟩, ⟨some 7, none, .alloc [.d (.int .i64 0), .d (.int .i64 0), .d .nil, .d .nil]⟩, ⟨none, none, .store 4 (.t 7) (.t 11)⟩] [0, 1, 2, 6, 7])
 (.seq (.reg false [⟨some 12, none, .build [.d (.int .i64 0), .d (.w 0#64)] [(0, 1, .k (.int .i64 2))]⟩, ⟨some 13, none, .mv (.t 0)⟩, ⟨some 14, none, .call false [] (.f 3) [.t 13, .k (.int .i64 2)]⟩, ⟨some 15, none, .conv .u64 (.t 14)⟩, ⟨some 16, none, .build [.d (.int .i64 0), .d (.w 0#64)] [(0, 1, .k (.int .i64 1)), (1, 1, .t 15)]⟩, ⟨some 17, none, .build [.d (.int .i64 0), .d (.w 0#64)] [(0, 1, .k (.int .i64 14))]⟩, ⟨some 18, none, .bslice 2 [(.int .i64 0), (.w 0#64)] 3 [(0, .t 12), (1, .t 16), (2, .t 17)]⟩, ⟨some 19, none, .faddr 2 (.t 7)⟩, ⟨none, none, .store 1 (.t 19) (.t 18)⟩] [0, 1, 2, 6, 7])
 (.seq (.seq (.reg false [⟨some 20, none, .mv (.t 0)⟩, ⟨some 21, none, .call false [] (.f 5) [.t 20, .k (.int .i64 3)]⟩] [0, 1, 2, 6, 7, 21])
 (.cond (.t 21) (.reg false [⟨some 22, none, .mv (.t 0)⟩, ⟨some 23, none, .mv (.t 1)⟩, ⟨some 24, none, .mv (.t 2)⟩, ⟨some 25, none, .call false [] (.f 8) [.t 22, .t 23, .t 24, .k (.int .i64 1)]⟩, ⟨some 26, none, .faddr 2 (.t 7)⟩, ⟨none, none, .store 1 (.t 26) (.t 25)⟩] [0, 1, 2, 6, 7]) .skip))
 (.kp [(0, .keep), (1, .keep), (2, .keep), (6, .keep), (7, .keep)] F85_t1)))))
def F85 : AFunc := ⟨3, [.cell 6 (some 4)], [[.fz, .fz, .fz, .owb 2]], F85_c⟩
/-- (*spec.l1Cur).small -/
def F86_b0 : AC := (.seq (.seq (.reg false [⟨some 17, none, .mv (.t 3)⟩, ⟨some 18, none, .mv (.t 4)⟩, ⟨some 19, none, .bin .mul (.t 17) (.t 18)⟩, ⟨some 20, none, .bin .gtr (.t 19) (.k (.int .i64 5))⟩, ⟨some 21, none, .mv (.t 20)⟩, ⟨some 22, (some (21, false)), .mv (.t 4)⟩, ⟨some 23, (some (21, false)), .bin .gtr (.t 22) (.k (.int .i64 4))⟩, ⟨some 24, none, .pick (.t 21) (.k (.bool true)) (.t 23)⟩] [0, 2, 3, 4, 24])
   (.cond (.t 24) .skip (.exit 0)))
   (.block 1 (.reg false [⟨some 25, none, .mv (.t 4)⟩, ⟨some 26, none, .bin .sub (.t 25) (.k (.int .i64 1))⟩, ⟨some 4, none, .mv (.t 26)⟩] [0, 2, 3, 4])))
def F86_l0 : AC := F86_b0
@[simp] theorem u86_0 (T : Nat → Option AFunc) (X : Orc) (F : AFunc) (m : Nat) (K : List AT) (e : Env) (st : St) : go T X F m (.code F86_l0 :: K) e st = go T X F m (.code F86_b0 :: K) e st := rfl
def F86_t0 : AC :=
 (.seq (.reg false [⟨some 66, none, .load (some 4) (.t 5)⟩, ⟨none, none, .store 4 (.t 2) (.t 66)⟩] [2])
 .ret)
def F86_t1 : AC :=
 (.seq (.reg false [⟨some 27, none, .mv (.t 0)⟩, ⟨some 28, none, .mv (.t 3)⟩, ⟨some 29, none, .mv (.t 4)⟩, ⟨some 30, none, .call false [] (.f 85) [.t 27, .t 28, .t 29]⟩, ⟨some 5, none, .alloc [.d (.int .i64 0), .d (.int .i64 0), .d .nil, .d .nil]⟩, ⟨none, none, .store 4 (.t 5) (.t 30)⟩] [0, 2, 5])
 (.seq (.seq (.reg false [⟨some 31, none, .mv (.t 0)⟩, ⟨some 32, none, .call false [] (.f 3) [.t 31, .k (.int .i64 40)]⟩] [0, 2, 5, 32])
 (.block 2 (.seq (.reg false [⟨some 34, none, .bin .eql (.t 32) (.k (.int .i64 0))⟩, ⟨some 33, none, .mv (.t 34)⟩] [0, 2, 5, 32, 33])
  (.cond (.t 33) (.reg false [⟨some 35, none, .mv (.t 0)⟩, ⟨some 36, none, .bslice 1 [(.int .i64 0)] 3 [(0, .k (.int .i64 0)), (1, .k (.int .i64 4)), (2, .k (.int .i64 5))]⟩, ⟨some 37, none, .call false [] (.f 4) [.t 35, .t 36]⟩, ⟨some 38, none, .faddr 1 (.t 5)⟩, ⟨none, none, .store 1 (.t 38) (.t 37)⟩] [2, 5]) (.seq (.reg false [⟨some 40, none, .bin .eql (.t 32) (.k (.int .i64 1))⟩, ⟨some 39, none, .mv (.t 40)⟩] [2, 5, 32, 39])
   (.cond (.t 39) (.reg false [⟨some 41, none, .faddr 3 (.t 5)⟩, ⟨none, none, .store 1 (.t 41) (.k .nil)⟩] [2, 5]) (.seq (.reg false [⟨some 43, none, .bin .eql (.t 32) (.k (.int .i64 2))⟩, ⟨some 42, none, .mv (.t 43)⟩] [2, 5, 32, 42])
    (.cond (.t 42) (.reg false [⟨some 44, none, .faddr 3 (.t 5)⟩, ⟨some 45, none, .load none (.t 44)⟩, ⟨some 46, none, .build [.d (.int .i64 0), .d (.w 0#64)] [(0, 1, .k (.int .i64 1))]⟩, ⟨some 47, none, .bslice 2 [(.int .i64 0), (.w 0#64)] 1 [(0, .t 46)]⟩, ⟨some 48, none, .iaddr 2 (.t 45) (.k (.int .i64 0))⟩, ⟨some 49, none, .faddr 0 (.t 48)⟩, ⟨none, none, .store 1 (.t 49) (.t 47)⟩] [2, 5]) (.seq (.reg false [⟨some 51, none, .bin .eql (.t 32) (.k (.int .i64 3))⟩, ⟨some 50, none, .mv (.t 51)⟩] [2, 5, 50])
     (.cond (.t 50) (.reg true [⟨some 52, none, .faddr 3 (.t 5)⟩, ⟨some 53, none, .ldb none (.t 52)⟩, ⟨some 54, none, .faddr 3 (.t 5)⟩, ⟨some 55, none, .load none (.t 54)⟩, ⟨some 56, none, .iaddr 2 (.t 55) (.k (.int .i64 0))⟩, ⟨some 57, none, .faddr 1 (.t 56)⟩, ⟨some 58, none, .load none (.t 57)⟩, ⟨some 59, none, .build [.d (.int .i64 0), .d (.w 0#64)] [(0, 1, .k (.int .i64 1))]⟩, ⟨some 60, none, .bslq 2 [(.int .i64 0), (.w 0#64)] 1 [(0, .t 59)]⟩, ⟨some 61, none, .build [.d (.int .i64 0), .d .nil] [(0, 1, .k (.int .i64 0)), (1, 1, .t 60)]⟩, ⟨some 62, none, .bslq 2 [(.int .i64 0), .nil] 1 [(0, .t 61)]⟩, ⟨some 63, none, .append 2 (.t 58) (.t 62)⟩, ⟨some 64, none, .iaddr 2 (.t 53) (.k (.int .i64 0))⟩, ⟨some 65, none, .faddr 1 (.t 64)⟩, ⟨none, none, .store 1 (.t 65) (.t 63)⟩] [2, 5]) .skip))))))))))
 (.kp [(2, .keep), (5, .keep)] F86_t0)))
def F86_t2 : AC :=
 (.seq (.block 0 (.loop [(0, .keep), (2, .keep), (3, .keep), (4, .keep)] F86_l0))
 (.kp [(0, .keep), (2, .keep), (3, .keep), (4, .keep)] F86_t1))
def F86_c : AC :=
 (.seq (.reg false [⟨some 2, none, .alloc [.d (.int .i64 0), .d (.int .i64 0), .d .nil, .d .nil]⟩] [0, 2])
 (.seq (.reg false [⟨some 6, none, .mv (.t 0)⟩, ⟨some 7, none, .bslice 1 [(.int .i64 0)] 6 [(0, .k (.int .i64 1)), (1, .k (.int .i64 2)), (2, .k (.int .i64 2)), (3, .k (.int .i64 2)), (4, .k (.int .i64 3)), (5, .k (.int .i64 4))]⟩, ⟨some 8, none, .call false [] (.f 4) [.t 6, .t 7]⟩, ⟨some 3, none, .mv (.t 8)⟩] [0, 2, 3])
 (.seq (.reg false [⟨some 4, none, .mv (.k (.int .i64 1))⟩] [0, 2, 3, 4])
 (.seq (.seq (.reg false [⟨some 9, none, .mv (.t 3)⟩, ⟨some 10, none, .bin .lss (.t 9) (.k (.int .i64 3))⟩] [0, 2, 3, 4, 10])
 (.cond (.t 10) (.reg false [⟨some 11, none, .mv (.t 4)⟩, ⟨some 12, none, .mv (.t 0)⟩, ⟨some 13, none, .mv (.t 3)⟩, ⟨some 14, none, .bin .quo (.k (.int .i64 6)) (.t 13)⟩, ⟨some 15, none, .call false [] (.f 3) [.t 12, .t 14]⟩, ⟨some 16, none, .bin .add (.t 11) (.t 15)⟩, ⟨some 4, none, .mv (.t 16)⟩] [0, 2, 3, 4]) .skip))
 (.kp [(0, .keep), (2, .keep), (3, .keep), (4, .keep)] F86_t2)))))
def F86 : AFunc := ⟨1, [.cell 2 (some 4)], [], F86_c⟩
/-- (*spec.l1Cur).prog -/
def F87_c : AC :=
 (.seq (.reg false [⟨some 2, none, .alloc [.d (.int .i64 0), .d (.int .i64 0), .d .nil, .d .nil]⟩] [0, 2])
 (.seq (.seq (.reg false [⟨some 3, none, .mv (.t 0)⟩, ⟨some 4, none, .call false [] (.f 5) [.t 3, .k (.int .i64 2)]⟩] [0, 2, 4])
 (.cond (.t 4) (.seq (.reg false [⟨some 5, none, .mv (.t 0)⟩, ⟨some 6, none, .call false [] (.f 86) [.t 5]⟩, ⟨none, none, .store 4 (.t 2) (.t 6)⟩] [2])
  .ret) .skip))
 (.seq (.reg false [⟨some 7, none, .mv (.t 0)⟩, ⟨some 8, none, .mv (.t 0)⟩, ⟨some 9, none, .bslice 1 [(.int .i64 0)] 3 [(0, .k (.int .i64 8)), (1, .k (.int .i64 32)), (2, .k (.int .i64 64))]⟩, ⟨some 10, none, .call false [] (.f 4) [.t 8, .t 9]⟩, ⟨some 11, none, .mv (.t 0)⟩, ⟨some 12, none, .call false [] (.f 3) [.t 11, .k (.int .i64 3)]⟩, ⟨some 13, none, .bin .add (.k (.int .i64 1)) (.t 12)⟩, ⟨some 14, none, .call false [] (.f 85) [.t 7, .t 10, .t 13]⟩, ⟨none, none, .store 4 (.t 2) (.t 14)⟩] [2])
 .ret)))
def F87 : AFunc := ⟨1, [.cell 2 (some 4)], [], F87_c⟩
/-- (*spec.l1Cur).long -/
def F10_b0 : AC := (.seq (.seq (.reg false [⟨some 5, none, .mv (.t 4)⟩, ⟨some 6, none, .bin .lss (.t 5) (.k (.int .i64 8))⟩] [0, 3, 4, 6])
   (.cond (.t 6) .skip (.exit 0)))
   (.seq (.block 1 (.reg false [⟨some 9, none, .mv (.t 3)⟩, ⟨some 10, none, .bin .shl (.t 9) (.k (.w 8#64))⟩, ⟨some 11, none, .mv (.t 0)⟩, ⟨some 12, none, .call false [] (.f 2) [.t 11]⟩, ⟨some 13, none, .conv .u64 (.t 12)⟩, ⟨some 14, none, .bin .or (.t 10) (.t 13)⟩, ⟨some 3, none, .mv (.t 14)⟩] [0, 3, 4]))
   (.reg false [⟨some 7, none, .mv (.t 4)⟩, ⟨some 8, none, .bin .add (.t 7) (.k (.int .i64 1))⟩, ⟨some 4, none, .mv (.t 8)⟩] [0, 3, 4])))
def F10_l0 : AC := F10_b0
@[simp] theorem u10_0 (T : Nat → Option AFunc) (X : Orc) (F : AFunc) (m : Nat) (K : List AT) (e : Env) (st : St) : go T X F m (.code F10_l0 :: K) e st = go T X F m (.code F10_b0 :: K) e st := rfl
def F10_t0 : AC :=
 (.seq (.reg false [⟨some 15, none, .mv (.t 3)⟩, ⟨some 2, none, .mv (.t 15)⟩] [2])
 .ret)
def F10_c : AC :=
 (.seq (.reg false [⟨some 2, none, .mv (.k (.w 0#64))⟩] [0])
 (.seq (.reg false [⟨some 3, none, .mv (.k (.w 0#64))⟩] [0, 3])
 (.seq (.seq (.reg false [⟨some 4, none, .mv (.k (.int .i64 0))⟩] [0, 3, 4])
 (.block 0 (.loop [(0, .keep), (3, .keep), (4, .keep)] F10_l0)))
 (.kp [(3, .keep)] F10_t0))))
def F10 : AFunc := ⟨1, [.t 2], [], F10_c⟩
/-- (*spec.l1Cur).word -/
def F11_t0 : AC :=
 (.seq (.seq (.reg false [⟨some 27, none, .mv (.t 0)⟩, ⟨some 28, none, .call false [] (.f 5) [.t 27, .k (.int .i64 30)]⟩] [1, 5, 28])
 (.cond (.t 28) (.seq (.reg false [⟨some 29, none, .mv (.t 5)⟩, ⟨some 4, none, .mv (.t 29)⟩] [4])
  .ret) .skip))
 (.seq (.reg false [⟨some 30, none, .mv (.t 1)⟩, ⟨some 31, none, .mv (.t 5)⟩, ⟨some 32, none, .pcall (.f 6) [.t 30, .t 31]⟩, ⟨some 4, none, .mv (.t 32)⟩] [4])
 .ret))
def F11_c : AC :=
 (.seq (.reg false [⟨some 4, none, .mv (.k (.w 0#64))⟩] [0, 1])
 (.seq (.reg false [⟨some 6, none, .mv (.t 0)⟩, ⟨some 7, none, .call false [] (.f 3) [.t 6, .k (.int .i64 5)]⟩, ⟨some 8, none, .conv .u64 (.t 7)⟩, ⟨some 5, none, .mv (.t 8)⟩] [0, 1, 5])
 (.seq (.seq (.reg false [⟨some 9, none, .mv (.t 0)⟩, ⟨some 10, none, .call false [] (.f 3) [.t 9, .k (.int .i64 5)]⟩] [0, 1, 5, 10])
 (.block 0 (.seq (.reg false [⟨some 12, none, .bin .eql (.t 10) (.k (.int .i64 0))⟩, ⟨some 11, none, .mv (.t 12)⟩] [0, 1, 5, 10, 11])
  (.cond (.t 11) (.reg false [⟨some 13, none, .mv (.t 0)⟩, ⟨some 14, none, .call false [] (.f 10) [.t 13]⟩, ⟨some 5, none, .mv (.t 14)⟩] [0, 1, 5]) (.seq (.reg false [⟨some 16, none, .bin .eql (.t 10) (.k (.int .i64 1))⟩, ⟨some 15, none, .mv (.t 16)⟩] [0, 1, 5, 10, 15])
   (.cond (.t 15) (.reg false [⟨some 17, none, .mv (.t 0)⟩, ⟨some 18, none, .call false [] (.f 3) [.t 17, .k (.int .i64 3)]⟩, ⟨some 19, none, .conv .u64 (.t 18)⟩, ⟨some 20, none, .bin .sub (.k (.w 18446744073709551615#64)) (.t 19)⟩, ⟨some 5, none, .mv (.t 20)⟩] [0, 1, 5]) (.seq (.reg false [⟨some 22, none, .bin .eql (.t 10) (.k (.int .i64 2))⟩, ⟨some 21, none, .mv (.t 22)⟩] [0, 1, 5, 21])
    (.cond (.t 21) (.reg false [⟨some 23, none, .mv (.t 0)⟩, ⟨some 24, none, .call false [] (.f 3) [.t 23, .k (.int .i64 64)]⟩, ⟨some 25, none, .conv .u64 (.t 24)⟩, ⟨some 26, none, .bin .shl (.k (.w 1#64)) (.t 25)⟩, ⟨some 5, none, .mv (.t 26)⟩] [0, 1, 5]) .skip))))))))
 (.kp [(0, .keep), (1, .keep), (5, .keep)] F11_t0))))
def F11 : AFunc := ⟨2, [.t 4], [], F11_c⟩
/-- (*spec.l1Cur).span -/
def F12_t0 : AC :=
 (.seq (.reg false [⟨some 36, none, .load (some 2) (.t 5)⟩, ⟨none, none, .store 2 (.t 4) (.t 36)⟩] [4])
 .ret)
def F12_t1 : AC :=
 (.seq (.seq (.reg false [⟨some 19, none, .faddr 0 (.t 5)⟩, ⟨some 20, none, .load none (.t 19)⟩, ⟨some 21, none, .faddr 1 (.t 5)⟩, ⟨some 22, none, .load none (.t 21)⟩, ⟨some 23, none, .bin .gtr (.t 20) (.t 22)⟩, ⟨some 24, none, .mv (.t 23)⟩, ⟨some 25, (some (24, true)), .mv (.t 0)⟩, ⟨some 26, (some (24, true)), .call false [] (.f 5) [.t 25, .k (.int .i64 30)]⟩, ⟨some 27, (some (24, true)), .un .not (.t 26)⟩, ⟨some 28, none, .pick (.t 24) (.t 27) (.k (.bool false))⟩] [4, 5, 28])
 (.cond (.t 28) (.seq (.reg false [⟨some 29, none, .faddr 1 (.t 5)⟩, ⟨some 30, none, .load none (.t 29)⟩, ⟨some 6, none, .mv (.t 30)⟩] [4, 5, 6])
  (.seq (.reg false [⟨some 31, none, .faddr 0 (.t 5)⟩, ⟨some 32, none, .load none (.t 31)⟩, ⟨some 33, none, .faddr 1 (.t 5)⟩, ⟨none, none, .store 1 (.t 33) (.t 32)⟩] [4, 5, 6])
  (.reg false [⟨some 34, none, .mv (.t 6)⟩, ⟨some 35, none, .faddr 0 (.t 5)⟩, ⟨none, none, .store 1 (.t 35) (.t 34)⟩] [4, 5]))) .skip))
 (.kp [(4, .keep), (5, .keep)] F12_t0))
def F12_c : AC :=
 (.seq (.reg false [⟨some 4, none, .alloc [.d (.w 0#64), .d (.w 0#64)]⟩] [0, 1, 4])
 (.seq (.reg false [⟨some 7, none, .mv (.t 0)⟩, ⟨some 8, none, .mv (.t 1)⟩, ⟨some 9, none, .call false [] (.f 11) [.t 7, .t 8]⟩, ⟨some 10, none, .mv (.t 0)⟩, ⟨some 11, none, .mv (.t 1)⟩, ⟨some 12, none, .call false [] (.f 11) [.t 10, .t 11]⟩, ⟨some 13, none, .build [.d (.w 0#64), .d (.w 0#64)] [(0, 1, .t 9), (1, 1, .t 12)]⟩, ⟨some 5, none, .alloc [.d (.w 0#64), .d (.w 0#64)]⟩, ⟨none, none, .store 2 (.t 5) (.t 13)⟩] [0, 4, 5])
 (.seq (.seq (.reg false [⟨some 14, none, .mv (.t 0)⟩, ⟨some 15, none, .call false [] (.f 5) [.t 14, .k (.int .i64 3)]⟩] [0, 4, 5, 15])
 (.cond (.t 15) (.reg false [⟨some 16, none, .faddr 0 (.t 5)⟩, ⟨some 17, none, .load none (.t 16)⟩, ⟨some 18, none, .faddr 1 (.t 5)⟩, ⟨none, none, .store 1 (.t 18) (.t 17)⟩] [0, 4, 5]) .skip))
 (.kp [(0, .keep), (4, .keep), (5, .keep)] F12_t1))))
def F12 : AFunc := ⟨2, [.cell 4 (some 2)], [], F12_c⟩
/-- (*spec.l1Cur).spans -/
def F13_b0 : AC := (.seq (.seq (.reg false [⟨some 9, none, .mv (.t 8)⟩, ⟨some 10, none, .mv (.t 2)⟩, ⟨some 11, none, .bin .lss (.t 9) (.t 10)⟩] [0, 1, 2, 7, 8, 11])
   (.cond (.t 11) .skip (.exit 0)))
   (.seq (.block 1 (.reg false [⟨some 14, none, .mv (.t 7)⟩, ⟨some 15, none, .mv (.t 0)⟩, ⟨some 16, none, .mv (.t 1)⟩, ⟨some 17, none, .call false [] (.f 12) [.t 15, .t 16]⟩, ⟨some 18, none, .bslice 2 [(.w 0#64), (.w 0#64)] 1 [(0, .t 17)]⟩, ⟨some 19, none, .append 2 (.t 14) (.t 18)⟩, ⟨some 7, none, .mv (.t 19)⟩] [0, 1, 2, 7, 8]))
   (.reg false [⟨some 12, none, .mv (.t 8)⟩, ⟨some 13, none, .bin .add (.t 12) (.k (.int .i64 1))⟩, ⟨some 8, none, .mv (.t 13)⟩] [0, 1, 2, 7, 8])))
def F13_l0 : AC := F13_b0
@[simp] theorem u13_0 (T : Nat → Option AFunc) (X : Orc) (F : AFunc) (m : Nat) (K : List AT) (e : Env) (st : St) : go T X F m (.code F13_l0 :: K) e st = go T X F m (.code F13_b0 :: K) e st := rfl
def F13_t0 : AC :=
 (.seq (.reg false [⟨some 20, none, .mv (.t 7)⟩, ⟨some 6, none, .mv (.t 20)⟩] [6])
 .ret)
def F13_c : AC :=
 (.seq (.reg false [⟨some 6, none, .mv (.k .nil)⟩] [0, 1, 2])
 (.seq (.reg false [⟨some 7, none, .mv (.k .nil)⟩] [0, 1, 2, 7])
 (.seq (.seq (.reg false [⟨some 8, none, .mv (.k (.int .i64 0))⟩] [0, 1, 2, 7, 8])
 (.block 0 (.loop [(0, .keep), (1, .keep), (2, .keep), (7, .ow 2), (8, .keep)] F13_l0)))
 (.kp [(7, .keep)] F13_t0))))
def F13 : AFunc := ⟨3, [.t 6], [], F13_c⟩
/-- spec.DrawSettleSpans -/
def F88_c : AC :=
 (.seq (.reg false [⟨some 2, none, .alloc [.d (.int .i64 0), .d (.int .i64 0), .d .nil, .d .nil]⟩, ⟨some 3, none, .mv (.k .nil)⟩, ⟨some 4, none, .mv (.k (.int .i64 0))⟩] [0, 2])
 (.seq (.reg false [⟨some 7, none, .mv (.t 0)⟩, ⟨some 8, none, .build [.d .nil, .d (.int .i64 0), .d (.w 0#64)] [(0, 1, .t 7)]⟩, ⟨some 9, none, .box (.t 8)⟩, ⟨some 5, none, .mv (.t 9)⟩] [2, 5])
 (.seq (.reg false [⟨some 10, none, .mv (.t 5)⟩, ⟨some 11, none, .call false [] (.f 87) [.t 10]⟩, ⟨some 6, none, .alloc [.d (.int .i64 0), .d (.int .i64 0), .d .nil, .d .nil]⟩, ⟨none, none, .store 4 (.t 6) (.t 11)⟩] [2, 5, 6])
 (.seq (.reg true [⟨some 12, none, .ldg (some 4) (.t 6) (.t 6)⟩, ⟨some 13, none, .mv (.t 5)⟩, ⟨some 14, none, .faddr 0 (.t 6)⟩, ⟨some 15, none, .load none (.t 14)⟩, ⟨some 16, none, .faddr 1 (.t 6)⟩, ⟨some 17, none, .load none (.t 16)⟩, ⟨some 18, none, .callg [] (.f 13) [.t 13, .t 15, .t 17] (.t 6)⟩, ⟨some 19, none, .mv (.t 5)⟩, ⟨some 20, none, .dsl 1 [(.int .i64 0)] 7 [(0, .k (.int .i64 0)), (1, .k (.int .i64 1)), (2, .k (.int .i64 2)), (3, .k (.int .i64 5)), (4, .k (.int .i64 20)), (5, .k (.int .i64 20)), (6, .k (.int .i64 21))]⟩, ⟨some 21, none, .callg [] (.f 4) [.t 19, .t 20] (.t 6)⟩, ⟨none, none, .store 4 (.t 2) (.t 12)⟩, ⟨some 3, none, .mv (.t 18)⟩, ⟨some 4, none, .mv (.t 21)⟩] [2, 3, 4])
 .ret))))
def F88 : AFunc := ⟨1, [.cell 2 (some 4), .t 3, .t 4], [], F88_c⟩
/-- impl.isVars -/
def F15_c : AC :=
 (.seq (.reg false [⟨some 2, none, .mv (.k (.bool false))⟩] [0])
 (.seq (.reg false [⟨some 3, none, .mv (.t 0)⟩, ⟨some 4, none, .bin .geq (.t 3) (.k (.int .i64 1))⟩, ⟨some 5, none, .mv (.t 4)⟩, ⟨some 6, (some (5, true)), .mv (.t 0)⟩, ⟨some 7, (some (5, true)), .bin .leq (.t 6) (.k (.int .i64 4))⟩, ⟨some 8, none, .pick (.t 5) (.t 7) (.k (.bool false))⟩, ⟨some 2, none, .mv (.t 8)⟩] [2])
 .ret))
def F15 : AFunc := ⟨1, [.t 2], [], F15_c⟩
/-- slices.IndexFunc[[]impl.Span,impl.Span] -/
def F16_b0 : AC := (.seq (.reg false [⟨some 9, none, .bin .lss (.t 8) (.t 7)⟩] [0, 1, 7, 8, 9])
   (.seq (.cond (.t 9) .skip (.exit 0))
   (.seq (.block 1 (.seq (.reg false [⟨some 10, none, .mv (.t 8)⟩, ⟨some 5, none, .mv (.t 10)⟩] [0, 1, 5, 7, 8])
    (.seq (.reg false [⟨some 11, none, .mv (.t 1)⟩, ⟨some 12, none, .mv (.t 0)⟩, ⟨some 13, none, .mv (.t 5)⟩, ⟨some 14, none, .iaddr 2 (.t 12) (.t 13)⟩, ⟨some 15, none, .load (some 2) (.t 14)⟩, ⟨some 16, none, .lcall (.t 11) [.t 15]⟩] [0, 1, 5, 7, 8, 16])
    (.cond (.t 16) (.seq (.reg false [⟨some 17, none, .mv (.t 5)⟩, ⟨some 4, none, .mv (.t 17)⟩] [4])
     .ret) .skip))))
   (.reg false [⟨some 18, none, .bin .add (.t 8) (.k (.int .i64 1))⟩, ⟨some 8, none, .mv (.t 18)⟩] [0, 1, 7, 8]))))
def F16_l0 : AC := F16_b0
@[simp] theorem u16_0 (T : Nat → Option AFunc) (X : Orc) (F : AFunc) (m : Nat) (K : List AT) (e : Env) (st : St) : go T X F m (.code F16_l0 :: K) e st = go T X F m (.code F16_b0 :: K) e st := rfl
def F16_t0 : AC :=
 (.seq (.reg false [⟨some 4, none, .mv (.k (.int .i64 (-1)))⟩] [4])
 .ret)
def F16_c : AC :=
 (.seq (.reg false [⟨some 4, none, .mv (.k (.int .i64 0))⟩] [0, 1])
 (.seq (.seq (.reg false [⟨some 6, none, .mv (.t 0)⟩, ⟨some 7, none, .len (.t 6)⟩, ⟨some 8, none, .mv (.k (.int .i64 0))⟩] [0, 1, 7, 8])
 (.block 0 (.loop [(0, .keep), (1, .keep), (7, .keep), (8, .keep)] F16_l0)))
 (.kp [] F16_t0)))
def F16 : AFunc := ⟨2, [.t 4], [], F16_c⟩
/-- slices.ContainsFunc[[]impl.Span,impl.Span] -/
def F17_c : AC :=
 (.seq (.reg false [⟨some 4, none, .mv (.k (.bool false))⟩] [0, 1])
 (.seq (.reg false [⟨some 5, none, .mv (.t 0)⟩, ⟨some 6, none, .mv (.t 1)⟩, ⟨some 7, none, .lcall (.f 16) [.t 5, .t 6]⟩, ⟨some 8, none, .bin .geq (.t 7) (.k (.int .i64 0))⟩, ⟨some 4, none, .mv (.t 8)⟩] [4])
 .ret))
def F17 : AFunc := ⟨2, [.t 4], [], F17_c⟩
/-- impl.isWide -/
def F18_c : AC :=
 (.seq (.reg false [⟨some 2, none, .mv (.k (.bool false))⟩] [0])
 (.seq (.reg false [⟨some 3, none, .mv (.t 0)⟩, ⟨some 4, none, .bin .geq (.t 3) (.k (.int .i64 1))⟩, ⟨some 5, none, .mv (.t 4)⟩, ⟨some 6, (some (5, true)), .mv (.t 0)⟩, ⟨some 7, (some (5, true)), .bin .leq (.t 6) (.k (.int .i64 64))⟩, ⟨some 8, none, .pick (.t 5) (.t 7) (.k (.bool false))⟩, ⟨some 2, none, .mv (.t 8)⟩] [2])
 .ret))
def F18 : AFunc := ⟨1, [.t 2], [], F18_c⟩
/-- impl.mask -/
def F19_c : AC :=
 (.seq (.reg false [⟨some 2, none, .mv (.k (.w 0#64))⟩] [0])
 (.seq (.reg false [⟨some 3, none, .mv (.t 0)⟩, ⟨some 4, none, .bin .sub (.k (.int .i64 64)) (.t 3)⟩, ⟨some 5, none, .bin .shr (.k (.w 18446744073709551615#64)) (.t 4)⟩, ⟨some 2, none, .mv (.t 5)⟩] [2])
 .ret))
def F19 : AFunc := ⟨1, [.t 2], [], F19_c⟩
/-- impl.GoodWord -/
def F20_c : AC :=
 (.seq (.reg false [⟨some 4, none, .mv (.k (.bool false))⟩] [0, 1])
 (.seq (.reg false [⟨some 5, none, .mv (.t 0)⟩, ⟨some 6, none, .pcall (.f 18) [.t 5]⟩, ⟨some 7, none, .mv (.t 6)⟩, ⟨some 8, (some (7, true)), .mv (.t 1)⟩, ⟨some 9, (some (7, true)), .mv (.t 0)⟩, ⟨some 10, (some (7, true)), .pcall (.f 19) [.t 9]⟩, ⟨some 11, (some (7, true)), .bin .leq (.t 8) (.t 10)⟩, ⟨some 12, none, .pick (.t 7) (.t 11) (.k (.bool false))⟩, ⟨some 4, none, .mv (.t 12)⟩] [4])
 .ret))
def F20 : AFunc := ⟨2, [.t 4], [], F20_c⟩
/-- impl.GoodSpan -/
def F21_c : AC :=
 (.seq (.reg false [⟨some 3, none, .box (.t 1)⟩, ⟨some 4, none, .mv (.k (.bool false))⟩] [0, 3])
 (.seq (.reg false [⟨some 5, none, .mv (.t 0)⟩, ⟨some 6, none, .faddr 1 (.t 3)⟩, ⟨some 7, none, .load none (.t 6)⟩, ⟨some 8, none, .pcall (.f 20) [.t 5, .t 7]⟩, ⟨some 9, none, .mv (.t 8)⟩, ⟨some 10, (some (9, true)), .faddr 0 (.t 3)⟩, ⟨some 11, (some (9, true)), .load none (.t 10)⟩, ⟨some 12, (some (9, true)), .faddr 1 (.t 3)⟩, ⟨some 13, (some (9, true)), .load none (.t 12)⟩, ⟨some 14, (some (9, true)), .bin .leq (.t 11) (.t 13)⟩, ⟨some 15, none, .pick (.t 9) (.t 14) (.k (.bool false))⟩, ⟨some 4, none, .mv (.t 15)⟩] [4])
 .ret))
def F21 : AFunc := ⟨2, [.t 4], [], F21_c⟩
/-- impl.areSpans$1 -/
def F22_c : AC :=
 (.seq (.reg false [⟨some 2, none, .box (.t 0)⟩, ⟨some 3, none, .mv (.k (.bool false))⟩] [1, 2])
 (.seq (.reg false [⟨some 4, none, .load none (.t 1)⟩, ⟨some 5, none, .load (some 2) (.t 2)⟩, ⟨some 6, none, .pcall (.f 21) [.t 4, .t 5]⟩, ⟨some 7, none, .un .not (.t 6)⟩, ⟨some 3, none, .mv (.t 7)⟩] [3])
 .ret))
def F22 : AFunc := ⟨2, [.t 3], [], F22_c⟩
/-- impl.areSpans -/
def F23_c : AC :=
 (.seq (.reg false [⟨some 2, none, .box (.t 0)⟩, ⟨some 4, none, .mv (.k (.bool false))⟩] [1, 2])
 (.seq (.reg false [⟨some 5, none, .mv (.t 1)⟩, ⟨some 6, none, .len (.t 5)⟩, ⟨some 7, none, .pcall (.f 15) [.t 6]⟩, ⟨some 8, none, .mv (.t 7)⟩, ⟨some 9, (some (8, true)), .mv (.t 1)⟩, ⟨some 10, (some (8, true)), .mkfn 22 [.t 2]⟩, ⟨some 11, (some (8, true)), .lcall (.f 17) [.t 9, .t 10]⟩, ⟨some 12, (some (8, true)), .un .not (.t 11)⟩, ⟨some 13, none, .pick (.t 8) (.t 12) (.k (.bool false))⟩, ⟨some 4, none, .mv (.t 13)⟩] [4])
 .ret))
def F23 : AFunc := ⟨2, [.t 4], [], F23_c⟩
/-- impl.operandsOf -/
def F24_c : AC :=
 (.seq (.reg false [⟨some 2, none, .mv (.k (.int .i64 0))⟩, ⟨some 3, none, .mv (.k (.int .i64 0))⟩, ⟨some 4, none, .mv (.k (.int .i64 0))⟩] [0])
 (.seq (.block 0 (.seq (.reg false [⟨some 6, none, .mv (.t 0)⟩, ⟨some 7, none, .bin .eql (.t 6) (.k (.int .i64 1))⟩, ⟨some 8, none, .mv (.t 7)⟩, ⟨some 9, (some (8, false)), .mv (.t 0)⟩, ⟨some 10, (some (8, false)), .bin .eql (.t 9) (.k (.int .i64 2))⟩, ⟨some 11, none, .pick (.t 8) (.k (.bool true)) (.t 10)⟩, ⟨some 5, none, .mv (.t 11)⟩] [0, 5])
  (.cond (.t 5) (.seq (.reg false [⟨some 2, none, .mv (.k (.int .i64 0))⟩, ⟨some 3, none, .mv (.k (.int .i64 0))⟩, ⟨some 4, none, .mv (.k (.int .i64 1))⟩] [2, 3, 4])
   .ret) (.seq (.reg false [⟨some 13, none, .mv (.t 0)⟩, ⟨some 14, none, .bin .eql (.t 13) (.k (.int .i64 20))⟩, ⟨some 12, none, .mv (.t 14)⟩] [0, 12])
   (.cond (.t 12) (.seq (.reg false [⟨some 2, none, .mv (.k (.int .i64 0))⟩, ⟨some 3, none, .mv (.k (.int .i64 0))⟩, ⟨some 4, none, .mv (.k (.int .i64 2))⟩] [2, 3, 4])
    .ret) (.seq (.reg false [⟨some 16, none, .mv (.t 0)⟩, ⟨some 17, none, .bin .eql (.t 16) (.k (.int .i64 13))⟩, ⟨some 15, none, .mv (.t 17)⟩] [0, 15])
    (.cond (.t 15) (.seq (.reg false [⟨some 2, none, .mv (.k (.int .i64 1))⟩, ⟨some 3, none, .mv (.k (.int .i64 1))⟩, ⟨some 4, none, .mv (.k (.int .i64 1))⟩] [2, 3, 4])
     .ret) (.seq (.reg false [⟨some 19, none, .mv (.t 0)⟩, ⟨some 20, none, .bin .eql (.t 19) (.k (.int .i64 19))⟩, ⟨some 18, none, .mv (.t 20)⟩] [0, 18])
     (.cond (.t 18) (.seq (.reg false [⟨some 2, none, .mv (.k (.int .i64 1))⟩, ⟨some 3, none, .mv (.k (.int .i64 2))⟩, ⟨some 4, none, .mv (.k (.int .i64 2))⟩] [2, 3, 4])
      .ret) (.seq (.reg false [⟨some 22, none, .mv (.t 0)⟩, ⟨some 23, none, .bin .geq (.t 22) (.k (.int .i64 3))⟩, ⟨some 24, none, .mv (.t 23)⟩, ⟨some 25, (some (24, true)), .mv (.t 0)⟩, ⟨some 26, (some (24, true)), .bin .leq (.t 25) (.k (.int .i64 12))⟩, ⟨some 27, none, .pick (.t 24) (.t 26) (.k (.bool false))⟩, ⟨some 21, none, .mv (.t 27)⟩] [0, 21])
      (.cond (.t 21) (.seq (.reg false [⟨some 2, none, .mv (.k (.int .i64 2))⟩, ⟨some 3, none, .mv (.k (.int .i64 1))⟩, ⟨some 4, none, .mv (.k (.int .i64 1))⟩] [2, 3, 4])
       .ret) (.seq (.reg false [⟨some 29, none, .mv (.t 0)⟩, ⟨some 30, none, .bin .geq (.t 29) (.k (.int .i64 14))⟩, ⟨some 31, none, .mv (.t 30)⟩, ⟨some 32, (some (31, true)), .mv (.t 0)⟩, ⟨some 33, (some (31, true)), .bin .leq (.t 32) (.k (.int .i64 16))⟩, ⟨some 34, none, .pick (.t 31) (.t 33) (.k (.bool false))⟩, ⟨some 28, none, .mv (.t 34)⟩] [0, 28])
       (.cond (.t 28) (.seq (.reg false [⟨some 2, none, .mv (.k (.int .i64 2))⟩, ⟨some 3, none, .mv (.k (.int .i64 1))⟩, ⟨some 4, none, .mv (.k (.int .i64 2))⟩] [2, 3, 4])
        .ret) (.seq (.reg false [⟨some 36, none, .mv (.t 0)⟩, ⟨some 37, none, .bin .eql (.t 36) (.k (.int .i64 17))⟩, ⟨some 38, none, .mv (.t 37)⟩, ⟨some 39, (some (38, false)), .mv (.t 0)⟩, ⟨some 40, (some (38, false)), .bin .eql (.t 39) (.k (.int .i64 18))⟩, ⟨some 41, none, .pick (.t 38) (.k (.bool true)) (.t 40)⟩, ⟨some 35, none, .mv (.t 41)⟩] [35])
        (.cond (.t 35) (.seq (.reg false [⟨some 2, none, .mv (.k (.int .i64 2))⟩, ⟨some 3, none, .mv (.k (.int .i64 2))⟩, ⟨some 4, none, .mv (.k (.int .i64 2))⟩] [2, 3, 4])
         .ret) .skip)))))))))))))))
 (.seq (.reg false [⟨some 2, none, .mv (.k (.int .i64 0))⟩, ⟨some 3, none, .mv (.k (.int .i64 0))⟩, ⟨some 4, none, .mv (.k (.int .i64 0))⟩] [2, 3, 4])
 .ret)))
def F24 : AFunc := ⟨1, [.t 2, .t 3, .t 4], [], F24_c⟩
/-- impl.isLeafRight -/
def F25_c : AC :=
 (.seq (.reg false [⟨some 5, none, .box (.t 2)⟩, ⟨some 6, none, .mv (.k (.bool false))⟩] [0, 1, 5])
 (.seq (.seq (.reg false [⟨some 7, none, .faddr 0 (.t 5)⟩, ⟨some 8, none, .load none (.t 7)⟩] [0, 1, 5, 8])
 (.block 0 (.seq (.reg false [⟨some 10, none, .bin .eql (.t 8) (.k (.int .i64 1))⟩, ⟨some 9, none, .mv (.t 10)⟩] [0, 1, 5, 8, 9])
  (.cond (.t 9) (.seq (.reg false [⟨some 11, none, .mv (.t 0)⟩, ⟨some 12, none, .faddr 1 (.t 5)⟩, ⟨some 13, none, .load none (.t 12)⟩, ⟨some 14, none, .pcall (.f 20) [.t 11, .t 13]⟩, ⟨some 6, none, .mv (.t 14)⟩] [6])
   .ret) (.seq (.reg false [⟨some 16, none, .bin .eql (.t 8) (.k (.int .i64 2))⟩, ⟨some 15, none, .mv (.t 16)⟩] [1, 5, 8, 15])
   (.cond (.t 15) (.seq (.reg false [⟨some 17, none, .faddr 1 (.t 5)⟩, ⟨some 18, none, .load none (.t 17)⟩, ⟨some 19, none, .mv (.t 1)⟩, ⟨some 20, none, .conv .u64 (.t 19)⟩, ⟨some 21, none, .bin .lss (.t 18) (.t 20)⟩, ⟨some 6, none, .mv (.t 21)⟩] [6])
    .ret) (.seq (.reg false [⟨some 23, none, .bin .eql (.t 8) (.k (.int .i64 20))⟩, ⟨some 22, none, .mv (.t 23)⟩] [5, 22])
    (.cond (.t 22) (.seq (.reg false [⟨some 24, none, .faddr 1 (.t 5)⟩, ⟨some 25, none, .load none (.t 24)⟩, ⟨some 26, none, .bin .leq (.t 25) (.k (.w 1#64))⟩, ⟨some 6, none, .mv (.t 26)⟩] [6])
     .ret) .skip))))))))
 (.seq (.reg false [⟨some 27, none, .faddr 1 (.t 5)⟩, ⟨some 28, none, .load none (.t 27)⟩, ⟨some 29, none, .bin .eql (.t 28) (.k (.w 0#64))⟩, ⟨some 6, none, .mv (.t 29)⟩] [6])
 .ret)))
def F25 : AFunc := ⟨3, [.t 6], [], F25_c⟩
/-- slices.IndexFunc[[]int,int] -/
def F26_b0 : AC := (.seq (.reg false [⟨some 9, none, .bin .lss (.t 8) (.t 7)⟩] [0, 1, 7, 8, 9])
   (.seq (.cond (.t 9) .skip (.exit 0))
   (.seq (.block 1 (.seq (.reg false [⟨some 10, none, .mv (.t 8)⟩, ⟨some 5, none, .mv (.t 10)⟩] [0, 1, 5, 7, 8])
    (.seq (.reg false [⟨some 11, none, .mv (.t 1)⟩, ⟨some 12, none, .mv (.t 0)⟩, ⟨some 13, none, .mv (.t 5)⟩, ⟨some 14, none, .iaddr 1 (.t 12) (.t 13)⟩, ⟨some 15, none, .load none (.t 14)⟩, ⟨some 16, none, .lcall (.t 11) [.t 15]⟩] [0, 1, 5, 7, 8, 16])
    (.cond (.t 16) (.seq (.reg false [⟨some 17, none, .mv (.t 5)⟩, ⟨some 4, none, .mv (.t 17)⟩] [4])
     .ret) .skip))))
   (.reg false [⟨some 18, none, .bin .add (.t 8) (.k (.int .i64 1))⟩, ⟨some 8, none, .mv (.t 18)⟩] [0, 1, 7, 8]))))
def F26_l0 : AC := F26_b0
@[simp] theorem u26_0 (T : Nat → Option AFunc) (X : Orc) (F : AFunc) (m : Nat) (K : List AT) (e : Env) (st : St) : go T X F m (.code F26_l0 :: K) e st = go T X F m (.code F26_b0 :: K) e st := rfl
def F26_t0 : AC :=
 (.seq (.reg false [⟨some 4, none, .mv (.k (.int .i64 (-1)))⟩] [4])
 .ret)
def F26_c : AC :=
 (.seq (.reg false [⟨some 4, none, .mv (.k (.int .i64 0))⟩] [0, 1])
 (.seq (.seq (.reg false [⟨some 6, none, .mv (.t 0)⟩, ⟨some 7, none, .len (.t 6)⟩, ⟨some 8, none, .mv (.k (.int .i64 0))⟩] [0, 1, 7, 8])
 (.block 0 (.loop [(0, .keep), (1, .keep), (7, .keep), (8, .keep)] F26_l0)))
 (.kp [] F26_t0)))
def F26 : AFunc := ⟨2, [.t 4], [], F26_c⟩
/-- slices.ContainsFunc[[]int,int] -/
def F27_c : AC :=
 (.seq (.reg false [⟨some 4, none, .mv (.k (.bool false))⟩] [0, 1])
 (.seq (.reg false [⟨some 5, none, .mv (.t 0)⟩, ⟨some 6, none, .mv (.t 1)⟩, ⟨some 7, none, .lcall (.f 26) [.t 5, .t 6]⟩, ⟨some 8, none, .bin .geq (.t 7) (.k (.int .i64 0))⟩, ⟨some 4, none, .mv (.t 8)⟩] [4])
 .ret))
def F27 : AFunc := ⟨2, [.t 4], [], F27_c⟩
/-- impl.GoodTerm$1 -/
def F28_c : AC :=
 (.seq (.reg false [⟨some 3, none, .mv (.k (.bool false))⟩] [0, 1])
 (.seq (.reg false [⟨some 4, none, .mv (.t 0)⟩, ⟨some 5, none, .load none (.t 1)⟩, ⟨some 6, none, .bin .neq (.t 4) (.t 5)⟩, ⟨some 3, none, .mv (.t 6)⟩] [3])
 .ret))
def F28 : AFunc := ⟨2, [.t 3], [], F28_c⟩
/-- impl.GoodTerm -/
def F29_b0 : AC := (.seq (.reg false [⟨some 36, none, .bin .lss (.t 35) (.t 34)⟩] [0, 1, 7, 33, 34, 35, 36])
   (.seq (.cond (.t 36) .skip (.exit 0))
   (.seq (.block 1 (.seq (.reg false [⟨some 37, none, .iaddr 2 (.t 33) (.t 35)⟩, ⟨some 38, none, .load (some 2) (.t 37)⟩, ⟨some 9, none, .alloc [.d (.int .i64 0), .d (.w 0#64)]⟩, ⟨none, none, .store 2 (.t 9) (.t 38)⟩] [0, 1, 7, 9, 33, 34, 35])
    (.seq (.reg false [⟨some 40, none, .faddr 0 (.t 9)⟩, ⟨some 41, none, .load none (.t 40)⟩, ⟨some 42, none, .pcall (.f 24) [.t 41]⟩, ⟨some 39, none, .mv (.t 42)⟩, ⟨some 43, none, .ext (.t 39) 0⟩, ⟨some 44, none, .ext (.t 39) 1⟩, ⟨some 45, none, .ext (.t 39) 2⟩, ⟨some 11, none, .alloc [.d (.int .i64 0)]⟩, ⟨some 10, none, .mv (.t 43)⟩, ⟨none, none, .store 1 (.t 11) (.t 44)⟩, ⟨some 12, none, .mv (.t 45)⟩] [0, 1, 7, 9, 10, 11, 12, 33, 34, 35])
    (.seq (.reg false [⟨some 46, none, .mv (.t 7)⟩, ⟨some 47, none, .len (.t 46)⟩, ⟨some 48, none, .mv (.t 10)⟩, ⟨some 49, none, .bin .sub (.t 47) (.t 48)⟩, ⟨some 13, none, .mv (.t 49)⟩] [0, 1, 7, 9, 11, 12, 13, 33, 34, 35])
    (.seq (.seq (.reg false [⟨some 50, none, .mv (.t 12)⟩, ⟨some 51, none, .bin .eql (.t 50) (.k (.int .i64 0))⟩, ⟨some 52, none, .mv (.t 51)⟩, ⟨some 53, (some (52, false)), .mv (.t 0)⟩, ⟨some 54, (some (52, false)), .mv (.t 1)⟩, ⟨some 55, (some (52, false)), .load (some 2) (.t 9)⟩, ⟨some 56, (some (52, false)), .pcall (.f 25) [.t 53, .t 54, .t 55]⟩, ⟨some 57, (some (52, false)), .un .not (.t 56)⟩, ⟨some 58, none, .pick (.t 52) (.k (.bool true)) (.t 57)⟩, ⟨some 59, none, .mv (.t 58)⟩, ⟨some 60, (some (59, false)), .mv (.t 13)⟩, ⟨some 61, (some (59, false)), .bin .lss (.t 60) (.k (.int .i64 0))⟩, ⟨some 62, none, .pick (.t 59) (.k (.bool true)) (.t 61)⟩, ⟨some 63, none, .mv (.t 62)⟩, ⟨some 64, (some (63, false)), .mv (.t 7)⟩, ⟨some 65, (some (63, false)), .mv (.t 13)⟩, ⟨some 66, (some (63, false)), .slice 1 (.t 64) (some (.t 65)) none⟩, ⟨some 67, (some (63, false)), .mkfn 28 [.t 11]⟩, ⟨some 68, (some (63, false)), .lcall (.f 27) [.t 66, .t 67]⟩, ⟨some 69, none, .pick (.t 63) (.k (.bool true)) (.t 68)⟩] [0, 1, 7, 12, 13, 33, 34, 35, 69])
    (.cond (.t 69) (.seq (.reg false [⟨some 6, none, .mv (.k (.bool false))⟩] [6])
     .ret) .skip))
    (.reg false [⟨some 70, none, .mv (.t 7)⟩, ⟨some 71, none, .mv (.t 13)⟩, ⟨some 72, none, .slice 1 (.t 70) none (some (.t 71))⟩, ⟨some 73, none, .mv (.t 12)⟩, ⟨some 74, none, .bslice 1 [(.int .i64 0)] 1 [(0, .t 73)]⟩, ⟨some 75, none, .append 1 (.t 72) (.t 74)⟩, ⟨some 7, none, .mv (.t 75)⟩] [0, 1, 7, 33, 34, 35]))))))
   (.reg false [⟨some 76, none, .bin .add (.t 35) (.k (.int .i64 1))⟩, ⟨some 35, none, .mv (.t 76)⟩] [0, 1, 7, 33, 34, 35]))))
def F29_l0 : AC := F29_b0
@[simp] theorem u29_0 (T : Nat → Option AFunc) (X : Orc) (F : AFunc) (m : Nat) (K : List AT) (e : Env) (st : St) : go T X F m (.code F29_l0 :: K) e st = go T X F m (.code F29_b0 :: K) e st := rfl
def F29_t0 : AC :=
 (.seq (.reg false [⟨some 77, none, .mv (.t 7)⟩, ⟨some 78, none, .len (.t 77)⟩, ⟨some 79, none, .bin .eql (.t 78) (.k (.int .i64 1))⟩, ⟨some 6, none, .mv (.t 79)⟩] [6])
 .ret)
def F29_c : AC :=
 (.seq (.reg false [⟨some 6, none, .mv (.k (.bool false))⟩] [0, 1, 2])
 (.seq (.seq (.reg false [⟨some 14, none, .mv (.t 0)⟩, ⟨some 15, none, .pcall (.f 18) [.t 14]⟩, ⟨some 16, none, .un .not (.t 15)⟩, ⟨some 17, none, .mv (.t 16)⟩, ⟨some 18, (some (17, false)), .mv (.t 1)⟩, ⟨some 19, (some (17, false)), .pcall (.f 15) [.t 18]⟩, ⟨some 20, (some (17, false)), .un .not (.t 19)⟩, ⟨some 21, none, .pick (.t 17) (.k (.bool true)) (.t 20)⟩, ⟨some 22, none, .mv (.t 21)⟩, ⟨some 23, (some (22, false)), .mv (.t 2)⟩, ⟨some 24, (some (22, false)), .len (.t 23)⟩, ⟨some 25, (some (22, false)), .bin .lss (.t 24) (.k (.int .i64 1))⟩, ⟨some 26, none, .pick (.t 22) (.k (.bool true)) (.t 25)⟩, ⟨some 27, none, .mv (.t 26)⟩, ⟨some 28, (some (27, false)), .mv (.t 2)⟩, ⟨some 29, (some (27, false)), .len (.t 28)⟩, ⟨some 30, (some (27, false)), .bin .gtr (.t 29) (.k (.int .i64 48))⟩, ⟨some 31, none, .pick (.t 27) (.k (.bool true)) (.t 30)⟩] [0, 1, 2, 31])
 (.cond (.t 31) (.seq (.reg false [⟨some 6, none, .mv (.k (.bool false))⟩] [6])
  .ret) .skip))
 (.seq (.reg false [⟨some 32, none, .bslice 1 [(.int .i64 0)] 0 []⟩, ⟨some 7, none, .mv (.t 32)⟩] [0, 1, 2, 7])
 (.seq (.seq (.reg false [⟨some 33, none, .mv (.t 2)⟩, ⟨some 34, none, .len (.t 33)⟩, ⟨some 35, none, .mv (.k (.int .i64 0))⟩] [0, 1, 7, 33, 34, 35])
 (.block 0 (.loop [(0, .keep), (1, .keep), (7, .ow 1), (33, .keep), (34, .keep), (35, .keep)] F29_l0)))
 (.kp [(7, .keep)] F29_t0)))))
def F29 : AFunc := ⟨3, [.t 6], [], F29_c⟩
/-- impl.kindOf -/
def F89_c : AC :=
 (.seq (.reg false [⟨some 2, none, .mv (.k (.int .i64 0))⟩] [0])
 (.seq (.reg false [⟨some 7, none, .mv (.t 0)⟩, ⟨some 8, none, .mv (.t 0)⟩, ⟨some 9, none, .len (.t 8)⟩, ⟨some 10, none, .bin .sub (.t 9) (.k (.int .i64 1))⟩, ⟨some 11, none, .iaddr 2 (.t 7) (.t 10)⟩, ⟨some 12, none, .faddr 0 (.t 11)⟩, ⟨some 13, none, .load none (.t 12)⟩, ⟨some 14, none, .pcall (.f 24) [.t 13]⟩, ⟨some 6, none, .mv (.t 14)⟩, ⟨some 15, none, .ext (.t 6) 0⟩, ⟨some 16, none, .ext (.t 6) 1⟩, ⟨some 17, none, .ext (.t 6) 2⟩, ⟨some 3, none, .mv (.t 15)⟩, ⟨some 4, none, .mv (.t 16)⟩, ⟨some 5, none, .mv (.t 17)⟩] [5])
 (.seq (.reg false [⟨some 18, none, .mv (.t 5)⟩, ⟨some 2, none, .mv (.t 18)⟩] [2])
 .ret)))
def F89 : AFunc := ⟨1, [.t 2], [], F89_c⟩
/-- impl.isTermOf -/
def F90_c : AC :=
 (.seq (.reg false [⟨some 8, none, .mv (.k (.bool false))⟩] [0, 1, 2, 3])
 (.seq (.reg false [⟨some 9, none, .mv (.t 0)⟩, ⟨some 10, none, .mv (.t 1)⟩, ⟨some 11, none, .mv (.t 2)⟩, ⟨some 12, none, .lcall (.f 29) [.t 9, .t 10, .t 11]⟩, ⟨some 13, none, .mv (.t 12)⟩, ⟨some 14, (some (13, true)), .mv (.t 2)⟩, ⟨some 15, (some (13, true)), .lcall (.f 89) [.t 14]⟩, ⟨some 16, (some (13, true)), .mv (.t 3)⟩, ⟨some 17, (some (13, true)), .bin .eql (.t 15) (.t 16)⟩, ⟨some 18, none, .pick (.t 13) (.t 17) (.k (.bool false))⟩, ⟨some 8, none, .mv (.t 18)⟩] [8])
 .ret))
def F90 : AFunc := ⟨4, [.t 8], [], F90_c⟩
/-- (impl.Program).isCondition -/
def F91_c : AC :=
 (.seq (.reg false [⟨some 2, none, .box (.t 0)⟩, ⟨some 4, none, .mv (.k (.bool false))⟩] [1, 2])
 (.seq (.reg false [⟨some 5, none, .faddr 0 (.t 2)⟩, ⟨some 6, none, .load none (.t 5)⟩, ⟨some 7, none, .faddr 1 (.t 2)⟩, ⟨some 8, none, .load none (.t 7)⟩, ⟨some 9, none, .mv (.t 1)⟩, ⟨some 10, none, .lcall (.f 90) [.t 6, .t 8, .t 9, .k (.int .i64 2)]⟩, ⟨some 4, none, .mv (.t 10)⟩] [4])
 .ret))
def F91 : AFunc := ⟨2, [.t 4], [], F91_c⟩
/-- slices.IndexFunc[[]impl.Command,impl.Command] -/
def F92_b0 : AC := (.seq (.reg false [⟨some 9, none, .bin .lss (.t 8) (.t 7)⟩] [0, 1, 7, 8, 9])
   (.seq (.cond (.t 9) .skip (.exit 0))
   (.seq (.block 1 (.seq (.reg false [⟨some 10, none, .mv (.t 8)⟩, ⟨some 5, none, .mv (.t 10)⟩] [0, 1, 5, 7, 8])
    (.seq (.reg false [⟨some 11, none, .mv (.t 1)⟩, ⟨some 12, none, .mv (.t 0)⟩, ⟨some 13, none, .mv (.t 5)⟩, ⟨some 14, none, .iaddr 2 (.t 12) (.t 13)⟩, ⟨some 15, none, .load (some 2) (.t 14)⟩, ⟨some 16, none, .lcall (.t 11) [.t 15]⟩] [0, 1, 5, 7, 8, 16])
    (.cond (.t 16) (.seq (.reg false [⟨some 17, none, .mv (.t 5)⟩, ⟨some 4, none, .mv (.t 17)⟩] [4])
     .ret) .skip))))
   (.reg false [⟨some 18, none, .bin .add (.t 8) (.k (.int .i64 1))⟩, ⟨some 8, none, .mv (.t 18)⟩] [0, 1, 7, 8]))))
def F92_l0 : AC := F92_b0
@[simp] theorem u92_0 (T : Nat → Option AFunc) (X : Orc) (F : AFunc) (m : Nat) (K : List AT) (e : Env) (st : St) : go T X F m (.code F92_l0 :: K) e st = go T X F m (.code F92_b0 :: K) e st := rfl
def F92_t0 : AC :=
 (.seq (.reg false [⟨some 4, none, .mv (.k (.int .i64 (-1)))⟩] [4])
 .ret)
def F92_c : AC :=
 (.seq (.reg false [⟨some 4, none, .mv (.k (.int .i64 0))⟩] [0, 1])
 (.seq (.seq (.reg false [⟨some 6, none, .mv (.t 0)⟩, ⟨some 7, none, .len (.t 6)⟩, ⟨some 8, none, .mv (.k (.int .i64 0))⟩] [0, 1, 7, 8])
 (.block 0 (.loop [(0, .keep), (1, .keep), (7, .keep), (8, .keep)] F92_l0)))
 (.kp [] F92_t0)))
def F92 : AFunc := ⟨2, [.t 4], [], F92_c⟩
/-- slices.ContainsFunc[[]impl.Command,impl.Command] -/
def F93_c : AC :=
 (.seq (.reg false [⟨some 4, none, .mv (.k (.bool false))⟩] [0, 1])
 (.seq (.reg false [⟨some 5, none, .mv (.t 0)⟩, ⟨some 6, none, .mv (.t 1)⟩, ⟨some 7, none, .lcall (.f 92) [.t 5, .t 6]⟩, ⟨some 8, none, .bin .geq (.t 7) (.k (.int .i64 0))⟩, ⟨some 4, none, .mv (.t 8)⟩] [4])
 .ret))
def F93 : AFunc := ⟨2, [.t 4], [], F93_c⟩
/-- (impl.Program).isCommand -/
def F94_b0 : AC := (.seq (.reg false [⟨some 16, none, .bin .lss (.t 15) (.t 14)⟩] [2, 3, 13, 14, 15, 16])
   (.seq (.cond (.t 16) .skip (.exit 0))
   (.seq (.block 1 (.seq (.reg false [⟨some 17, none, .mv (.t 15)⟩, ⟨some 18, none, .iaddr 2 (.t 13) (.t 15)⟩, ⟨some 19, none, .load (some 2) (.t 18)⟩, ⟨some 6, none, .alloc [.d (.int .i64 0), .d .nil]⟩, ⟨some 5, none, .mv (.t 17)⟩, ⟨none, none, .store 2 (.t 6) (.t 19)⟩] [2, 3, 5, 6, 13, 14, 15])
    (.seq (.reg true [⟨some 20, none, .faddr 0 (.t 6)⟩, ⟨some 21, none, .load none (.t 20)⟩, ⟨some 22, none, .bin .lss (.t 21) (.k (.int .i64 0))⟩, ⟨some 23, none, .mv (.t 22)⟩, ⟨some 24, (some (23, false)), .faddr 0 (.t 6)⟩, ⟨some 25, (some (23, false)), .load none (.t 24)⟩, ⟨some 26, (some (23, false)), .faddr 1 (.t 2)⟩, ⟨some 27, (some (23, false)), .load none (.t 26)⟩, ⟨some 28, (some (23, false)), .bin .geq (.t 25) (.t 27)⟩, ⟨some 29, none, .pick (.t 23) (.k (.bool true)) (.t 28)⟩, ⟨some 30, none, .mv (.t 29)⟩, ⟨some 31, (some (30, false)), .mv (.t 5)⟩, ⟨some 32, (some (30, false)), .bin .gtr (.t 31) (.k (.int .i64 0))⟩, ⟨some 33, (some (30, false)), .mv (.t 32)⟩, ⟨some 34, (some (33, true)), .faddr 1 (.t 3)⟩, ⟨some 35, (some (33, true)), .load none (.t 34)⟩, ⟨some 36, (some (33, true)), .mv (.t 5)⟩, ⟨some 37, (some (33, true)), .bin .sub (.t 36) (.k (.int .i64 1))⟩, ⟨some 38, (some (33, true)), .iaddr 2 (.t 35) (.t 37)⟩, ⟨some 39, (some (33, true)), .faddr 0 (.t 38)⟩, ⟨some 40, (some (33, true)), .load none (.t 39)⟩, ⟨some 41, (some (33, true)), .faddr 0 (.t 6)⟩, ⟨some 42, (some (33, true)), .load none (.t 41)⟩, ⟨some 43, (some (33, true)), .bin .geq (.t 40) (.t 42)⟩, ⟨some 44, (some (30, false)), .pick (.t 33) (.t 43) (.k (.bool false))⟩, ⟨some 45, none, .pick (.t 30) (.k (.bool true)) (.t 44)⟩, ⟨some 46, none, .mv (.t 45)⟩, ⟨some 47, (some (46, false)), .faddr 0 (.t 2)⟩, ⟨some 48, (some (46, false)), .load none (.t 47)⟩, ⟨some 49, (some (46, false)), .faddr 1 (.t 2)⟩, ⟨some 50, (some (46, false)), .load none (.t 49)⟩, ⟨some 51, (some (46, false)), .faddr 1 (.t 6)⟩, ⟨some 52, (some (46, false)), .load none (.t 51)⟩, ⟨some 53, (some (46, false)), .lcall (.f 90) [.t 48, .t 50, .t 52, .k (.int .i64 1)]⟩, ⟨some 54, (some (46, false)), .un .not (.t 53)⟩, ⟨some 55, none, .pick (.t 46) (.k (.bool true)) (.t 54)⟩] [2, 3, 13, 14, 15, 55])
    (.cond (.t 55) (.seq (.reg false [⟨some 4, none, .mv (.k (.bool false))⟩] [4])
     .ret) .skip))))
   (.reg false [⟨some 56, none, .bin .add (.t 15) (.k (.int .i64 1))⟩, ⟨some 15, none, .mv (.t 56)⟩] [2, 3, 13, 14, 15]))))
def F94_l0 : AC := F94_b0
@[simp] theorem u94_0 (T : Nat → Option AFunc) (X : Orc) (F : AFunc) (m : Nat) (K : List AT) (e : Env) (st : St) : go T X F m (.code F94_l0 :: K) e st = go T X F m (.code F94_b0 :: K) e st := rfl
def F94_t0 : AC :=
 (.seq (.reg false [⟨some 4, none, .mv (.k (.bool true))⟩] [4])
 .ret)
def F94_c : AC :=
 (.seq (.reg false [⟨some 2, none, .box (.t 0)⟩, ⟨some 3, none, .box (.t 1)⟩, ⟨some 4, none, .mv (.k (.bool false))⟩] [2, 3])
 (.seq (.seq (.reg false [⟨some 7, none, .load (some 4) (.t 2)⟩, ⟨some 8, none, .faddr 0 (.t 3)⟩, ⟨some 9, none, .load none (.t 8)⟩, ⟨some 10, none, .lcall (.f 91) [.t 7, .t 9]⟩, ⟨some 11, none, .un .not (.t 10)⟩] [2, 3, 11])
 (.cond (.t 11) (.seq (.reg false [⟨some 4, none, .mv (.k (.bool false))⟩] [4])
  .ret) .skip))
 (.seq (.seq (.reg false [⟨some 12, none, .faddr 1 (.t 3)⟩, ⟨some 13, none, .load none (.t 12)⟩, ⟨some 14, none, .len (.t 13)⟩, ⟨some 15, none, .mv (.k (.int .i64 0))⟩] [2, 3, 13, 14, 15])
 (.block 0 (.loop [(2, .keep), (3, .keep), (13, .keep), (14, .keep), (15, .keep)] F94_l0)))
 (.kp [] F94_t0))))
def F94 : AFunc := ⟨2, [.t 4], [], F94_c⟩
/-- impl.GoodProgram$1 -/
def F95_c : AC :=
 (.seq (.reg false [⟨some 2, none, .box (.t 0)⟩, ⟨some 3, none, .mv (.k (.bool false))⟩] [1, 2])
 (.seq (.reg false [⟨some 4, none, .load (some 4) (.t 1)⟩, ⟨some 5, none, .load (some 2) (.t 2)⟩, ⟨some 6, none, .lcall (.f 94) [.t 4, .t 5]⟩, ⟨some 7, none, .un .not (.t 6)⟩, ⟨some 3, none, .mv (.t 7)⟩] [3])
 .ret))
def F95 : AFunc := ⟨2, [.t 3], [], F95_c⟩
/-- impl.GoodProgram -/
def F96_c : AC :=
 (.seq (.reg false [⟨some 1, none, .box (.t 0)⟩, ⟨some 2, none, .mv (.k (.bool false))⟩] [1])
 (.seq (.seq (.reg false [⟨some 3, none, .faddr 0 (.t 1)⟩, ⟨some 4, none, .load none (.t 3)⟩, ⟨some 5, none, .pcall (.f 18) [.t 4]⟩, ⟨some 6, none, .un .not (.t 5)⟩, ⟨some 7, none, .mv (.t 6)⟩, ⟨some 8, (some (7, false)), .faddr 1 (.t 1)⟩, ⟨some 9, (some (7, false)), .load none (.t 8)⟩, ⟨some 10, (some (7, false)), .pcall (.f 15) [.t 9]⟩, ⟨some 11, (some (7, false)), .un .not (.t 10)⟩, ⟨some 12, none, .pick (.t 7) (.k (.bool true)) (.t 11)⟩, ⟨some 13, none, .mv (.t 12)⟩, ⟨some 14, (some (13, false)), .load (some 4) (.t 1)⟩, ⟨some 15, (some (13, false)), .faddr 2 (.t 1)⟩, ⟨some 16, (some (13, false)), .load none (.t 15)⟩, ⟨some 17, (some (13, false)), .lcall (.f 91) [.t 14, .t 16]⟩, ⟨some 18, (some (13, false)), .un .not (.t 17)⟩, ⟨some 19, none, .pick (.t 13) (.k (.bool true)) (.t 18)⟩, ⟨some 20, none, .mv (.t 19)⟩, ⟨some 21, (some (20, false)), .faddr 3 (.t 1)⟩, ⟨some 22, (some (20, false)), .load none (.t 21)⟩, ⟨some 23, (some (20, false)), .len (.t 22)⟩, ⟨some 24, (some (20, false)), .bin .lss (.t 23) (.k (.int .i64 1))⟩, ⟨some 25, none, .pick (.t 20) (.k (.bool true)) (.t 24)⟩, ⟨some 26, none, .mv (.t 25)⟩, ⟨some 27, (some (26, false)), .faddr 3 (.t 1)⟩, ⟨some 28, (some (26, false)), .load none (.t 27)⟩, ⟨some 29, (some (26, false)), .len (.t 28)⟩, ⟨some 30, (some (26, false)), .bin .gtr (.t 29) (.k (.int .i64 6))⟩, ⟨some 31, none, .pick (.t 26) (.k (.bool true)) (.t 30)⟩] [1, 31])
 (.cond (.t 31) (.seq (.reg false [⟨some 2, none, .mv (.k (.bool false))⟩] [2])
  .ret) .skip))
 (.seq (.reg false [⟨some 32, none, .faddr 3 (.t 1)⟩, ⟨some 33, none, .load none (.t 32)⟩, ⟨some 34, none, .mkfn 95 [.t 1]⟩, ⟨some 35, none, .lcall (.f 93) [.t 33, .t 34]⟩, ⟨some 36, none, .un .not (.t 35)⟩, ⟨some 2, none, .mv (.t 36)⟩] [2])
 .ret)))
def F96 : AFunc := ⟨1, [.t 2], [], F96_c⟩
/-- impl.areSpansOf -/
def F97_c : AC :=
 (.seq (.reg false [⟨some 2, none, .box (.t 0)⟩, ⟨some 4, none, .mv (.k (.bool false))⟩] [1, 2])
 (.seq (.reg false [⟨some 5, none, .load (some 4) (.t 2)⟩, ⟨some 6, none, .lcall (.f 96) [.t 5]⟩, ⟨some 7, none, .mv (.t 6)⟩, ⟨some 8, (some (7, true)), .mv (.t 1)⟩, ⟨some 9, (some (7, true)), .len (.t 8)⟩, ⟨some 10, (some (7, true)), .faddr 1 (.t 2)⟩, ⟨some 11, (some (7, true)), .load none (.t 10)⟩, ⟨some 12, (some (7, true)), .bin .eql (.t 9) (.t 11)⟩, ⟨some 13, none, .pick (.t 7) (.t 12) (.k (.bool false))⟩, ⟨some 14, none, .mv (.t 13)⟩, ⟨some 15, (some (14, true)), .faddr 0 (.t 2)⟩, ⟨some 16, (some (14, true)), .load none (.t 15)⟩, ⟨some 17, (some (14, true)), .mv (.t 1)⟩, ⟨some 18, (some (14, true)), .lcall (.f 23) [.t 16, .t 17]⟩, ⟨some 19, none, .pick (.t 14) (.t 18) (.k (.bool false))⟩, ⟨some 4, none, .mv (.t 19)⟩] [4])
 .ret))
def F97 : AFunc := ⟨2, [.t 4], [], F97_c⟩
/-- slices.Clone[[]impl.Span,impl.Span] -/
def F98_c : AC :=
 (.seq (.reg false [⟨some 2, none, .mv (.k .nil)⟩] [0])
 (.seq (.seq (.reg false [⟨some 3, none, .mv (.t 0)⟩, ⟨some 4, none, .isnil (.t 3)⟩] [0, 4])
 (.cond (.t 4) (.seq (.reg false [⟨some 2, none, .mv (.k .nil)⟩] [2])
  .ret) .skip))
 (.seq (.reg false [⟨some 5, none, .bslice 2 [(.w 0#64), (.w 0#64)] 0 []⟩, ⟨some 6, none, .mv (.t 0)⟩, ⟨some 7, none, .append 2 (.t 5) (.t 6)⟩, ⟨some 2, none, .mv (.t 7)⟩] [2])
 .ret)))
def F98 : AFunc := ⟨1, [.t 2], [[.ow 2]], F98_c⟩
/-- impl.sumSpan -/
def F32_c : AC :=
 (.seq (.reg false [⟨some 3, none, .box (.t 0)⟩, ⟨some 4, none, .box (.t 1)⟩, ⟨some 5, none, .box (.t 2)⟩, ⟨some 6, none, .alloc [.d (.w 0#64), .d (.w 0#64)]⟩] [3, 4, 5, 6])
 (.seq (.seq (.reg false [⟨some 10, none, .faddr 1 (.t 4)⟩, ⟨some 11, none, .load none (.t 10)⟩, ⟨some 12, none, .faddr 1 (.t 5)⟩, ⟨some 13, none, .load none (.t 12)⟩, ⟨some 14, none, .pcall (.f 31) [.t 11, .t 13, .k (.w 0#64)]⟩, ⟨some 9, none, .mv (.t 14)⟩, ⟨some 15, none, .ext (.t 9) 0⟩, ⟨some 16, none, .ext (.t 9) 1⟩, ⟨some 7, none, .mv (.t 15)⟩, ⟨some 8, none, .mv (.t 16)⟩] [3, 4, 5, 6, 7, 8])
 (.seq (.reg false [⟨some 17, none, .mv (.t 8)⟩, ⟨some 18, none, .bin .eql (.t 17) (.k (.w 0#64))⟩, ⟨some 19, none, .mv (.t 18)⟩, ⟨some 20, (some (19, true)), .mv (.t 7)⟩, ⟨some 21, (some (19, true)), .faddr 1 (.t 3)⟩, ⟨some 22, (some (19, true)), .load none (.t 21)⟩, ⟨some 23, (some (19, true)), .bin .leq (.t 20) (.t 22)⟩, ⟨some 24, none, .pick (.t 19) (.t 23) (.k (.bool false))⟩] [3, 4, 5, 6, 7, 24])
 (.cond (.t 24) (.seq (.reg false [⟨some 25, none, .faddr 0 (.t 4)⟩, ⟨some 26, none, .load none (.t 25)⟩, ⟨some 27, none, .faddr 0 (.t 5)⟩, ⟨some 28, none, .load none (.t 27)⟩, ⟨some 29, none, .bin .add (.t 26) (.t 28)⟩, ⟨some 30, none, .mv (.t 7)⟩, ⟨some 31, none, .build [.d (.w 0#64), .d (.w 0#64)] [(0, 1, .t 29), (1, 1, .t 30)]⟩, ⟨none, none, .store 2 (.t 6) (.t 31)⟩] [6])
  .ret) .skip)))
 (.seq (.reg false [⟨some 32, none, .load (some 2) (.t 3)⟩, ⟨none, none, .store 2 (.t 6) (.t 32)⟩] [6])
 .ret)))
def F32 : AFunc := ⟨3, [.cell 6 (some 2)], [], F32_c⟩
/-- math/bits.Mul64 -/
def F33_c : AC :=
 (.seq (.reg false [⟨some 4, none, .mv (.k (.w 0#64))⟩, ⟨some 5, none, .mv (.k (.w 0#64))⟩] [0, 1])
 (.seq (.reg false [⟨some 14, none, .mv (.t 0)⟩, ⟨some 15, none, .bin .and (.t 14) (.k (.w 4294967295#64))⟩, ⟨some 6, none, .mv (.t 15)⟩] [0, 1, 6])
 (.seq (.reg false [⟨some 16, none, .mv (.t 0)⟩, ⟨some 17, none, .bin .shr (.t 16) (.k (.w 32#64))⟩, ⟨some 7, none, .mv (.t 17)⟩] [0, 1, 6, 7])
 (.seq (.reg false [⟨some 18, none, .mv (.t 1)⟩, ⟨some 19, none, .bin .and (.t 18) (.k (.w 4294967295#64))⟩, ⟨some 8, none, .mv (.t 19)⟩] [0, 1, 6, 7, 8])
 (.seq (.reg false [⟨some 20, none, .mv (.t 1)⟩, ⟨some 21, none, .bin .shr (.t 20) (.k (.w 32#64))⟩, ⟨some 9, none, .mv (.t 21)⟩] [0, 1, 6, 7, 8, 9])
 (.seq (.reg false [⟨some 22, none, .mv (.t 6)⟩, ⟨some 23, none, .mv (.t 8)⟩, ⟨some 24, none, .bin .mul (.t 22) (.t 23)⟩, ⟨some 10, none, .mv (.t 24)⟩] [0, 1, 6, 7, 8, 9, 10])
 (.seq (.reg false [⟨some 25, none, .mv (.t 7)⟩, ⟨some 26, none, .mv (.t 8)⟩, ⟨some 27, none, .bin .mul (.t 25) (.t 26)⟩, ⟨some 28, none, .mv (.t 10)⟩, ⟨some 29, none, .bin .shr (.t 28) (.k (.w 32#64))⟩, ⟨some 30, none, .bin .add (.t 27) (.t 29)⟩, ⟨some 11, none, .mv (.t 30)⟩] [0, 1, 6, 7, 9, 11])
 (.seq (.reg false [⟨some 31, none, .mv (.t 11)⟩, ⟨some 32, none, .bin .and (.t 31) (.k (.w 4294967295#64))⟩, ⟨some 12, none, .mv (.t 32)⟩] [0, 1, 6, 7, 9, 11, 12])
 (.seq (.reg false [⟨some 33, none, .mv (.t 11)⟩, ⟨some 34, none, .bin .shr (.t 33) (.k (.w 32#64))⟩, ⟨some 13, none, .mv (.t 34)⟩] [0, 1, 6, 7, 9, 12, 13])
 (.seq (.reg false [⟨some 35, none, .mv (.t 12)⟩, ⟨some 36, none, .mv (.t 6)⟩, ⟨some 37, none, .mv (.t 9)⟩, ⟨some 38, none, .bin .mul (.t 36) (.t 37)⟩, ⟨some 39, none, .bin .add (.t 35) (.t 38)⟩, ⟨some 12, none, .mv (.t 39)⟩] [0, 1, 7, 9, 12, 13])
 (.seq (.reg false [⟨some 40, none, .mv (.t 7)⟩, ⟨some 41, none, .mv (.t 9)⟩, ⟨some 42, none, .bin .mul (.t 40) (.t 41)⟩, ⟨some 43, none, .mv (.t 13)⟩, ⟨some 44, none, .bin .add (.t 42) (.t 43)⟩, ⟨some 45, none, .mv (.t 12)⟩, ⟨some 46, none, .bin .shr (.t 45) (.k (.w 32#64))⟩, ⟨some 47, none, .bin .add (.t 44) (.t 46)⟩, ⟨some 4, none, .mv (.t 47)⟩] [0, 1, 4])
 (.seq (.reg false [⟨some 48, none, .mv (.t 0)⟩, ⟨some 49, none, .mv (.t 1)⟩, ⟨some 50, none, .bin .mul (.t 48) (.t 49)⟩, ⟨some 5, none, .mv (.t 50)⟩] [4, 5])
 .ret))))))))))))
def F33 : AFunc := ⟨2, [.t 4, .t 5], [], F33_c⟩
/-- impl.productSpan -/
def F34_c : AC :=
 (.seq (.reg false [⟨some 3, none, .box (.t 0)⟩, ⟨some 4, none, .box (.t 1)⟩, ⟨some 5, none, .box (.t 2)⟩, ⟨some 6, none, .alloc [.d (.w 0#64), .d (.w 0#64)]⟩] [3, 4, 5, 6])
 (.seq (.seq (.reg false [⟨some 10, none, .faddr 1 (.t 4)⟩, ⟨some 11, none, .load none (.t 10)⟩, ⟨some 12, none, .faddr 1 (.t 5)⟩, ⟨some 13, none, .load none (.t 12)⟩, ⟨some 14, none, .pcall (.f 33) [.t 11, .t 13]⟩, ⟨some 9, none, .mv (.t 14)⟩, ⟨some 15, none, .ext (.t 9) 0⟩, ⟨some 16, none, .ext (.t 9) 1⟩, ⟨some 7, none, .mv (.t 15)⟩, ⟨some 8, none, .mv (.t 16)⟩] [3, 4, 5, 6, 7, 8])
 (.seq (.reg false [⟨some 17, none, .mv (.t 7)⟩, ⟨some 18, none, .bin .eql (.t 17) (.k (.w 0#64))⟩, ⟨some 19, none, .mv (.t 18)⟩, ⟨some 20, (some (19, true)), .mv (.t 8)⟩, ⟨some 21, (some (19, true)), .faddr 1 (.t 3)⟩, ⟨some 22, (some (19, true)), .load none (.t 21)⟩, ⟨some 23, (some (19, true)), .bin .leq (.t 20) (.t 22)⟩, ⟨some 24, none, .pick (.t 19) (.t 23) (.k (.bool false))⟩] [3, 4, 5, 6, 8, 24])
 (.cond (.t 24) (.seq (.reg false [⟨some 25, none, .faddr 0 (.t 4)⟩, ⟨some 26, none, .load none (.t 25)⟩, ⟨some 27, none, .faddr 0 (.t 5)⟩, ⟨some 28, none, .load none (.t 27)⟩, ⟨some 29, none, .bin .mul (.t 26) (.t 28)⟩, ⟨some 30, none, .mv (.t 8)⟩, ⟨some 31, none, .build [.d (.w 0#64), .d (.w 0#64)] [(0, 1, .t 29), (1, 1, .t 30)]⟩, ⟨none, none, .store 2 (.t 6) (.t 31)⟩] [6])
  .ret) .skip)))
 (.seq (.reg false [⟨some 32, none, .load (some 2) (.t 3)⟩, ⟨none, none, .store 2 (.t 6) (.t 32)⟩] [6])
 .ret)))
def F34 : AFunc := ⟨3, [.cell 6 (some 2)], [], F34_c⟩
/-- impl.meetSpans -/
def F30_c : AC :=
 (.seq (.reg false [⟨some 2, none, .box (.t 0)⟩, ⟨some 3, none, .box (.t 1)⟩, ⟨some 4, none, .alloc [.d (.w 0#64), .d (.w 0#64)]⟩, ⟨some 5, none, .mv (.k (.bool false))⟩] [2, 3, 4])
 (.seq (.reg false [⟨some 7, none, .faddr 0 (.t 2)⟩, ⟨some 8, none, .load none (.t 7)⟩, ⟨some 9, none, .faddr 0 (.t 3)⟩, ⟨some 10, none, .load none (.t 9)⟩, ⟨some 11, none, .max (.t 8) (.t 10)⟩, ⟨some 12, none, .faddr 1 (.t 2)⟩, ⟨some 13, none, .load none (.t 12)⟩, ⟨some 14, none, .faddr 1 (.t 3)⟩, ⟨some 15, none, .load none (.t 14)⟩, ⟨some 16, none, .min (.t 13) (.t 15)⟩, ⟨some 17, none, .build [.d (.w 0#64), .d (.w 0#64)] [(0, 1, .t 11), (1, 1, .t 16)]⟩, ⟨some 6, none, .alloc [.d (.w 0#64), .d (.w 0#64)]⟩, ⟨none, none, .store 2 (.t 6) (.t 17)⟩] [4, 6])
 (.seq (.seq (.reg false [⟨some 18, none, .faddr 0 (.t 6)⟩, ⟨some 19, none, .load none (.t 18)⟩, ⟨some 20, none, .faddr 1 (.t 6)⟩, ⟨some 21, none, .load none (.t 20)⟩, ⟨some 22, none, .bin .gtr (.t 19) (.t 21)⟩] [4, 6, 22])
 (.cond (.t 22) (.seq (.reg false [⟨some 23, none, .build [.d (.w 0#64), .d (.w 0#64)] []⟩, ⟨none, none, .store 2 (.t 4) (.t 23)⟩, ⟨some 5, none, .mv (.k (.bool false))⟩] [4, 5])
  .ret) .skip))
 (.seq (.reg false [⟨some 24, none, .load (some 2) (.t 6)⟩, ⟨none, none, .store 2 (.t 4) (.t 24)⟩, ⟨some 5, none, .mv (.k (.bool true))⟩] [4, 5])
 .ret))))
def F30 : AFunc := ⟨2, [.cell 4 (some 2), .t 5], [], F30_c⟩
/-- impl.comparison -/
def F35_c : AC :=
 (.seq (.reg false [⟨some 4, none, .alloc [.d (.w 0#64), .d (.w 0#64)]⟩] [0, 1, 4])
 (.seq (.block 0 (.seq (.reg false [⟨some 6, none, .mv (.t 0)⟩, ⟨some 5, none, .mv (.t 6)⟩] [1, 4, 5])
  (.cond (.t 5) (.seq (.reg false [⟨some 7, none, .build [.d (.w 0#64), .d (.w 0#64)] [(0, 1, .k (.w 1#64)), (1, 1, .k (.w 1#64))]⟩, ⟨none, none, .store 2 (.t 4) (.t 7)⟩] [4])
   .ret) (.seq (.reg false [⟨some 9, none, .mv (.t 1)⟩, ⟨some 8, none, .mv (.t 9)⟩] [4, 8])
   (.cond (.t 8) (.seq (.reg false [⟨some 10, none, .build [.d (.w 0#64), .d (.w 0#64)] [(0, 1, .k (.w 0#64)), (1, 1, .k (.w 0#64))]⟩, ⟨none, none, .store 2 (.t 4) (.t 10)⟩] [4])
    .ret) .skip)))))
 (.seq (.reg false [⟨some 11, none, .build [.d (.w 0#64), .d (.w 0#64)] [(0, 1, .k (.w 0#64)), (1, 1, .k (.w 1#64))]⟩, ⟨none, none, .store 2 (.t 4) (.t 11)⟩] [4])
 .ret)))
def F35 : AFunc := ⟨2, [.cell 4 (some 2)], [], F35_c⟩
/-- impl.spanOfTwo -/
def F36_t0 : AC :=
 (.seq (.reg false [⟨some 164, none, .load (some 2) (.t 5)⟩, ⟨none, none, .store 2 (.t 8) (.t 164)⟩] [8])
 .ret)
def F36_c : AC :=
 (.seq (.reg false [⟨some 5, none, .box (.t 1)⟩, ⟨some 6, none, .box (.t 2)⟩, ⟨some 7, none, .box (.t 3)⟩, ⟨some 8, none, .alloc [.d (.w 0#64), .d (.w 0#64)]⟩] [0, 5, 6, 7, 8])
 (.seq (.seq (.reg false [⟨some 11, none, .mv (.t 0)⟩] [5, 6, 7, 8, 11])
 (.block 0 (.seq (.reg false [⟨some 13, none, .bin .eql (.t 11) (.k (.int .i64 3))⟩, ⟨some 12, none, .mv (.t 13)⟩] [5, 6, 7, 8, 11, 12])
  (.cond (.t 12) (.seq (.reg false [⟨some 14, none, .load (some 2) (.t 5)⟩, ⟨some 15, none, .load (some 2) (.t 6)⟩, ⟨some 16, none, .load (some 2) (.t 7)⟩, ⟨some 17, none, .pcall (.f 32) [.t 14, .t 15, .t 16]⟩, ⟨none, none, .store 2 (.t 8) (.t 17)⟩] [8])
   .ret) (.seq (.reg false [⟨some 19, none, .bin .eql (.t 11) (.k (.int .i64 5))⟩, ⟨some 18, none, .mv (.t 19)⟩] [5, 6, 7, 8, 11, 18])
   (.cond (.t 18) (.seq (.reg false [⟨some 20, none, .load (some 2) (.t 5)⟩, ⟨some 21, none, .load (some 2) (.t 6)⟩, ⟨some 22, none, .load (some 2) (.t 7)⟩, ⟨some 23, none, .pcall (.f 34) [.t 20, .t 21, .t 22]⟩, ⟨none, none, .store 2 (.t 8) (.t 23)⟩] [8])
    .ret) (.seq (.reg false [⟨some 25, none, .bin .eql (.t 11) (.k (.int .i64 4))⟩, ⟨some 24, none, .mv (.t 25)⟩] [5, 6, 7, 8, 11, 24])
    (.cond (.t 24) (.seq (.reg false [⟨some 26, none, .faddr 0 (.t 6)⟩, ⟨some 27, none, .load none (.t 26)⟩, ⟨some 28, none, .faddr 1 (.t 7)⟩, ⟨some 29, none, .load none (.t 28)⟩, ⟨some 30, none, .bin .geq (.t 27) (.t 29)⟩] [5, 6, 7, 8, 30])
     (.cond (.t 30) (.seq (.reg false [⟨some 31, none, .faddr 0 (.t 6)⟩, ⟨some 32, none, .load none (.t 31)⟩, ⟨some 33, none, .faddr 1 (.t 7)⟩, ⟨some 34, none, .load none (.t 33)⟩, ⟨some 35, none, .bin .sub (.t 32) (.t 34)⟩, ⟨some 36, none, .faddr 1 (.t 6)⟩, ⟨some 37, none, .load none (.t 36)⟩, ⟨some 38, none, .faddr 0 (.t 7)⟩, ⟨some 39, none, .load none (.t 38)⟩, ⟨some 40, none, .bin .sub (.t 37) (.t 39)⟩, ⟨some 41, none, .build [.d (.w 0#64), .d (.w 0#64)] [(0, 1, .t 35), (1, 1, .t 40)]⟩, ⟨none, none, .store 2 (.t 8) (.t 41)⟩] [8])
      .ret) .skip)) (.seq (.reg false [⟨some 43, none, .bin .eql (.t 11) (.k (.int .i64 6))⟩, ⟨some 42, none, .mv (.t 43)⟩] [5, 6, 7, 8, 11, 42])
     (.cond (.t 42) (.seq (.reg false [⟨some 44, none, .faddr 0 (.t 7)⟩, ⟨some 45, none, .load none (.t 44)⟩, ⟨some 46, none, .bin .gtr (.t 45) (.k (.w 0#64))⟩] [5, 6, 7, 8, 46])
      (.cond (.t 46) (.seq (.reg true [⟨some 47, none, .faddr 0 (.t 6)⟩, ⟨some 48, none, .load none (.t 47)⟩, ⟨some 49, none, .faddr 1 (.t 7)⟩, ⟨some 50, none, .load none (.t 49)⟩, ⟨some 51, none, .bin .quo (.t 48) (.t 50)⟩, ⟨some 52, none, .faddr 1 (.t 6)⟩, ⟨some 53, none, .load none (.t 52)⟩, ⟨some 54, none, .faddr 0 (.t 7)⟩, ⟨some 55, none, .load none (.t 54)⟩, ⟨some 56, none, .bin .quo (.t 53) (.t 55)⟩, ⟨some 57, none, .build [.d (.w 0#64), .d (.w 0#64)] [(0, 1, .t 51), (1, 1, .t 56)]⟩, ⟨none, none, .store 2 (.t 8) (.t 57)⟩] [8])
       .ret) .skip)) (.seq (.reg false [⟨some 59, none, .bin .eql (.t 11) (.k (.int .i64 7))⟩, ⟨some 58, none, .mv (.t 59)⟩] [5, 6, 7, 8, 11, 58])
      (.cond (.t 58) (.seq (.seq (.reg false [⟨some 60, none, .faddr 0 (.t 7)⟩, ⟨some 61, none, .load none (.t 60)⟩, ⟨some 62, none, .bin .gtr (.t 61) (.k (.w 0#64))⟩, ⟨some 63, none, .mv (.t 62)⟩, ⟨some 64, (some (63, true)), .faddr 1 (.t 7)⟩, ⟨some 65, (some (63, true)), .load none (.t 64)⟩, ⟨some 66, (some (63, true)), .bin .sub (.t 65) (.k (.w 1#64))⟩, ⟨some 67, (some (63, true)), .faddr 1 (.t 6)⟩, ⟨some 68, (some (63, true)), .load none (.t 67)⟩, ⟨some 69, (some (63, true)), .bin .lss (.t 66) (.t 68)⟩, ⟨some 70, none, .pick (.t 63) (.t 69) (.k (.bool false))⟩] [6, 7, 8, 70])
       (.cond (.t 70) (.seq (.reg false [⟨some 71, none, .faddr 1 (.t 7)⟩, ⟨some 72, none, .load none (.t 71)⟩, ⟨some 73, none, .bin .sub (.t 72) (.k (.w 1#64))⟩, ⟨some 74, none, .build [.d (.w 0#64), .d (.w 0#64)] [(0, 1, .k (.w 0#64)), (1, 1, .t 73)]⟩, ⟨none, none, .store 2 (.t 8) (.t 74)⟩] [8])
        .ret) .skip))
       (.seq (.reg false [⟨some 75, none, .faddr 1 (.t 6)⟩, ⟨some 76, none, .load none (.t 75)⟩, ⟨some 77, none, .build [.d (.w 0#64), .d (.w 0#64)] [(0, 1, .k (.w 0#64)), (1, 1, .t 76)]⟩, ⟨none, none, .store 2 (.t 8) (.t 77)⟩] [8])
       .ret)) (.seq (.reg false [⟨some 79, none, .bin .eql (.t 11) (.k (.int .i64 12))⟩, ⟨some 78, none, .mv (.t 79)⟩] [5, 6, 7, 8, 11, 78])
       (.cond (.t 78) (.seq (.reg false [⟨some 80, none, .faddr 1 (.t 6)⟩, ⟨some 81, none, .load none (.t 80)⟩, ⟨some 82, none, .build [.d (.w 0#64), .d (.w 0#64)] [(0, 1, .k (.w 0#64)), (1, 1, .t 81)]⟩, ⟨none, none, .store 2 (.t 8) (.t 82)⟩] [8])
        .ret) (.seq (.reg false [⟨some 84, none, .bin .eql (.t 11) (.k (.int .i64 8))⟩, ⟨some 83, none, .mv (.t 84)⟩] [5, 6, 7, 8, 11, 83])
        (.cond (.t 83) (.seq (.reg false [⟨some 85, none, .faddr 1 (.t 6)⟩, ⟨some 86, none, .load none (.t 85)⟩, ⟨some 87, none, .faddr 1 (.t 7)⟩, ⟨some 88, none, .load none (.t 87)⟩, ⟨some 89, none, .min (.t 86) (.t 88)⟩, ⟨some 90, none, .build [.d (.w 0#64), .d (.w 0#64)] [(0, 1, .k (.w 0#64)), (1, 1, .t 89)]⟩, ⟨none, none, .store 2 (.t 8) (.t 90)⟩] [8])
         .ret) (.seq (.reg false [⟨some 92, none, .bin .eql (.t 11) (.k (.int .i64 9))⟩, ⟨some 91, none, .mv (.t 92)⟩] [5, 6, 7, 8, 11, 91])
         (.cond (.t 91) (.seq (.reg false [⟨some 93, none, .faddr 0 (.t 6)⟩, ⟨some 94, none, .load none (.t 93)⟩, ⟨some 95, none, .faddr 0 (.t 7)⟩, ⟨some 96, none, .load none (.t 95)⟩, ⟨some 97, none, .max (.t 94) (.t 96)⟩, ⟨some 98, none, .faddr 1 (.t 5)⟩, ⟨some 99, none, .load none (.t 98)⟩, ⟨some 100, none, .build [.d (.w 0#64), .d (.w 0#64)] [(0, 1, .t 97), (1, 1, .t 99)]⟩, ⟨none, none, .store 2 (.t 8) (.t 100)⟩] [8])
          .ret) (.seq (.reg false [⟨some 102, none, .bin .eql (.t 11) (.k (.int .i64 14))⟩, ⟨some 101, none, .mv (.t 102)⟩] [5, 6, 7, 8, 11, 101])
          (.cond (.t 101) (.seq (.reg false [⟨some 104, none, .load (some 2) (.t 6)⟩, ⟨some 105, none, .load (some 2) (.t 7)⟩, ⟨some 106, none, .pcall (.f 30) [.t 104, .t 105]⟩, ⟨some 103, none, .mv (.t 106)⟩, ⟨some 107, none, .ext (.t 103) 0⟩, ⟨some 108, none, .ext (.t 103) 1⟩, ⟨some 9, none, .alloc [.d (.w 0#64), .d (.w 0#64)]⟩, ⟨none, none, .store 2 (.t 9) (.t 107)⟩, ⟨some 10, none, .mv (.t 108)⟩] [6, 7, 8, 10])
           (.seq (.reg false [⟨some 109, none, .load (some 2) (.t 6)⟩, ⟨some 110, none, .load (some 2) (.t 7)⟩, ⟨some 111, none, .eqs [0, 0] false (.t 109) (.t 110)⟩, ⟨some 112, none, .mv (.t 111)⟩, ⟨some 113, (some (112, true)), .faddr 0 (.t 6)⟩, ⟨some 114, (some (112, true)), .load none (.t 113)⟩, ⟨some 115, (some (112, true)), .faddr 1 (.t 6)⟩, ⟨some 116, (some (112, true)), .load none (.t 115)⟩, ⟨some 117, (some (112, true)), .bin .eql (.t 114) (.t 116)⟩, ⟨some 118, none, .pick (.t 112) (.t 117) (.k (.bool false))⟩, ⟨some 119, none, .mv (.t 10)⟩, ⟨some 120, none, .un .not (.t 119)⟩, ⟨some 121, none, .pcall (.f 35) [.t 118, .t 120]⟩, ⟨none, none, .store 2 (.t 8) (.t 121)⟩] [8])
           .ret)) (.seq (.reg false [⟨some 123, none, .bin .eql (.t 11) (.k (.int .i64 15))⟩, ⟨some 122, none, .mv (.t 123)⟩] [5, 6, 7, 8, 11, 122])
           (.cond (.t 122) (.seq (.reg false [⟨some 124, none, .faddr 1 (.t 6)⟩, ⟨some 125, none, .load none (.t 124)⟩, ⟨some 126, none, .faddr 0 (.t 7)⟩, ⟨some 127, none, .load none (.t 126)⟩, ⟨some 128, none, .bin .lss (.t 125) (.t 127)⟩, ⟨some 129, none, .faddr 0 (.t 6)⟩, ⟨some 130, none, .load none (.t 129)⟩, ⟨some 131, none, .faddr 1 (.t 7)⟩, ⟨some 132, none, .load none (.t 131)⟩, ⟨some 133, none, .bin .geq (.t 130) (.t 132)⟩, ⟨some 134, none, .pcall (.f 35) [.t 128, .t 133]⟩, ⟨none, none, .store 2 (.t 8) (.t 134)⟩] [8])
            .ret) (.seq (.reg false [⟨some 136, none, .bin .eql (.t 11) (.k (.int .i64 16))⟩, ⟨some 135, none, .mv (.t 136)⟩] [5, 6, 7, 8, 11, 135])
            (.cond (.t 135) (.seq (.reg false [⟨some 137, none, .build [.d (.w 0#64), .d (.w 0#64)] [(0, 1, .k (.w 0#64)), (1, 1, .k (.w 1#64))]⟩, ⟨none, none, .store 2 (.t 8) (.t 137)⟩] [8])
             .ret) (.seq (.reg false [⟨some 139, none, .bin .eql (.t 11) (.k (.int .i64 17))⟩, ⟨some 138, none, .mv (.t 139)⟩] [5, 6, 7, 8, 11, 138])
             (.cond (.t 138) (.seq (.reg false [⟨some 140, none, .faddr 0 (.t 6)⟩, ⟨some 141, none, .load none (.t 140)⟩, ⟨some 142, none, .faddr 0 (.t 7)⟩, ⟨some 143, none, .load none (.t 142)⟩, ⟨some 144, none, .min (.t 141) (.t 143)⟩, ⟨some 145, none, .faddr 1 (.t 6)⟩, ⟨some 146, none, .load none (.t 145)⟩, ⟨some 147, none, .faddr 1 (.t 7)⟩, ⟨some 148, none, .load none (.t 147)⟩, ⟨some 149, none, .min (.t 146) (.t 148)⟩, ⟨some 150, none, .build [.d (.w 0#64), .d (.w 0#64)] [(0, 1, .t 144), (1, 1, .t 149)]⟩, ⟨none, none, .store 2 (.t 8) (.t 150)⟩] [8])
              .ret) (.seq (.reg false [⟨some 152, none, .bin .eql (.t 11) (.k (.int .i64 18))⟩, ⟨some 151, none, .mv (.t 152)⟩] [5, 6, 7, 8, 151])
              (.cond (.t 151) (.seq (.reg false [⟨some 153, none, .faddr 0 (.t 6)⟩, ⟨some 154, none, .load none (.t 153)⟩, ⟨some 155, none, .faddr 0 (.t 7)⟩, ⟨some 156, none, .load none (.t 155)⟩, ⟨some 157, none, .max (.t 154) (.t 156)⟩, ⟨some 158, none, .faddr 1 (.t 6)⟩, ⟨some 159, none, .load none (.t 158)⟩, ⟨some 160, none, .faddr 1 (.t 7)⟩, ⟨some 161, none, .load none (.t 160)⟩, ⟨some 162, none, .max (.t 159) (.t 161)⟩, ⟨some 163, none, .build [.d (.w 0#64), .d (.w 0#64)] [(0, 1, .t 157), (1, 1, .t 162)]⟩, ⟨none, none, .store 2 (.t 8) (.t 163)⟩] [8])
               .ret) .skip))))))))))))))))))))))))))))
 (.kp [(5, .keep), (8, .keep)] F36_t0)))
def F36 : AFunc := ⟨4, [.cell 8 (some 2)], [], F36_c⟩
/-- impl.spanOf -/
def F37_t0 : AC :=
 (.cond (.t 46) (.reg false [⟨some 49, none, .mv (.t 8)⟩, ⟨some 50, none, .faddr 1 (.t 10)⟩, ⟨some 51, none, .load none (.t 50)⟩, ⟨some 52, none, .faddr 1 (.t 10)⟩, ⟨some 53, none, .load none (.t 52)⟩, ⟨some 54, none, .build [.d (.w 0#64), .d (.w 0#64)] [(0, 1, .t 51), (1, 1, .t 53)]⟩, ⟨some 55, none, .bslice 2 [(.w 0#64), (.w 0#64)] 1 [(0, .t 54)]⟩, ⟨some 56, none, .append 2 (.t 49) (.t 55)⟩, ⟨some 8, none, .mv (.t 56)⟩] [2, 6, 7, 8, 16, 17, 18]) (.seq (.reg false [⟨some 58, none, .bin .eql (.t 26) (.k (.int .i64 2))⟩, ⟨some 57, none, .mv (.t 58)⟩] [2, 6, 7, 8, 10, 11, 16, 17, 18, 26, 57])
  (.cond (.t 57) (.reg false [⟨some 59, none, .mv (.t 8)⟩, ⟨some 60, none, .mv (.t 2)⟩, ⟨some 61, none, .faddr 1 (.t 10)⟩, ⟨some 62, none, .load none (.t 61)⟩, ⟨some 63, none, .iaddr 2 (.t 60) (.t 62)⟩, ⟨some 64, none, .load (some 2) (.t 63)⟩, ⟨some 65, none, .bslice 2 [(.w 0#64), (.w 0#64)] 1 [(0, .t 64)]⟩, ⟨some 66, none, .append 2 (.t 59) (.t 65)⟩, ⟨some 8, none, .mv (.t 66)⟩] [2, 6, 7, 8, 16, 17, 18]) (.seq (.reg false [⟨some 68, none, .bin .eql (.t 26) (.k (.int .i64 13))⟩, ⟨some 67, none, .mv (.t 68)⟩] [2, 6, 7, 8, 10, 11, 16, 17, 18, 26, 67])
   (.cond (.t 67) (.reg true [⟨some 69, none, .mv (.t 8)⟩, ⟨some 70, none, .mv (.t 11)⟩, ⟨some 71, none, .faddr 1 (.t 7)⟩, ⟨some 72, none, .load none (.t 71)⟩, ⟨some 73, none, .mv (.t 8)⟩, ⟨some 74, none, .mv (.t 11)⟩, ⟨some 75, none, .iaddr 2 (.t 73) (.t 74)⟩, ⟨some 76, none, .faddr 1 (.t 75)⟩, ⟨some 77, none, .load none (.t 76)⟩, ⟨some 78, none, .bin .sub (.t 72) (.t 77)⟩, ⟨some 79, none, .faddr 1 (.t 7)⟩, ⟨some 80, none, .load none (.t 79)⟩, ⟨some 81, none, .mv (.t 8)⟩, ⟨some 82, none, .mv (.t 11)⟩, ⟨some 83, none, .iaddr 2 (.t 81) (.t 82)⟩, ⟨some 84, none, .faddr 0 (.t 83)⟩, ⟨some 85, none, .load none (.t 84)⟩, ⟨some 86, none, .bin .sub (.t 80) (.t 85)⟩, ⟨some 87, none, .build [.d (.w 0#64), .d (.w 0#64)] [(0, 1, .t 78), (1, 1, .t 86)]⟩, ⟨some 88, none, .iaddr 2 (.t 69) (.t 70)⟩, ⟨none, none, .store 2 (.t 88) (.t 87)⟩] [2, 6, 7, 8, 16, 17, 18]) (.seq (.reg false [⟨some 90, none, .bin .eql (.t 26) (.k (.int .i64 19))⟩, ⟨some 89, none, .mv (.t 90)⟩] [2, 6, 7, 8, 10, 11, 16, 17, 18, 89])
    (.cond (.t 89) (.reg true [⟨some 91, none, .mv (.t 8)⟩, ⟨some 92, none, .mv (.t 11)⟩, ⟨some 93, none, .mv (.t 8)⟩, ⟨some 94, none, .mv (.t 11)⟩, ⟨some 95, none, .iaddr 2 (.t 93) (.t 94)⟩, ⟨some 96, none, .faddr 1 (.t 95)⟩, ⟨some 97, none, .load none (.t 96)⟩, ⟨some 98, none, .bin .sub (.k (.w 1#64)) (.t 97)⟩, ⟨some 99, none, .mv (.t 8)⟩, ⟨some 100, none, .mv (.t 11)⟩, ⟨some 101, none, .iaddr 2 (.t 99) (.t 100)⟩, ⟨some 102, none, .faddr 0 (.t 101)⟩, ⟨some 103, none, .load none (.t 102)⟩, ⟨some 104, none, .bin .sub (.k (.w 1#64)) (.t 103)⟩, ⟨some 105, none, .build [.d (.w 0#64), .d (.w 0#64)] [(0, 1, .t 98), (1, 1, .t 104)]⟩, ⟨some 106, none, .iaddr 2 (.t 91) (.t 92)⟩, ⟨none, none, .store 2 (.t 106) (.t 105)⟩] [2, 6, 7, 8, 16, 17, 18]) (.reg true [⟨some 27, none, .mv (.t 8)⟩, ⟨some 28, none, .mv (.t 11)⟩, ⟨some 29, none, .bin .sub (.t 28) (.k (.int .i64 1))⟩, ⟨some 30, none, .slice 2 (.t 27) none (some (.t 29))⟩, ⟨some 31, none, .faddr 0 (.t 10)⟩, ⟨some 32, none, .load none (.t 31)⟩, ⟨some 33, none, .load (some 2) (.t 7)⟩, ⟨some 34, none, .mv (.t 8)⟩, ⟨some 35, none, .mv (.t 11)⟩, ⟨some 36, none, .bin .sub (.t 35) (.k (.int .i64 1))⟩, ⟨some 37, none, .iaddr 2 (.t 34) (.t 36)⟩, ⟨some 38, none, .load (some 2) (.t 37)⟩, ⟨some 39, none, .mv (.t 8)⟩, ⟨some 40, none, .mv (.t 11)⟩, ⟨some 41, none, .iaddr 2 (.t 39) (.t 40)⟩, ⟨some 42, none, .load (some 2) (.t 41)⟩, ⟨some 43, none, .pcall (.f 36) [.t 32, .t 33, .t 38, .t 42]⟩, ⟨some 44, none, .bslice 2 [(.w 0#64), (.w 0#64)] 1 [(0, .t 43)]⟩, ⟨some 45, none, .append 2 (.t 30) (.t 44)⟩, ⟨some 8, none, .mv (.t 45)⟩] [2, 6, 7, 8, 16, 17, 18]))))))))
def F37_t1 : AC :=
 (.reg false [⟨some 107, none, .bin .add (.t 18) (.k (.int .i64 1))⟩, ⟨some 18, none, .mv (.t 107)⟩] [2, 6, 7, 8, 16, 17, 18])
def F37_b0 : AC := (.seq (.reg false [⟨some 19, none, .bin .lss (.t 18) (.t 17)⟩] [2, 6, 7, 8, 16, 17, 18, 19])
   (.seq (.cond (.t 19) .skip (.exit 0))
   (.seq (.block 1 (.seq (.reg false [⟨some 20, none, .iaddr 2 (.t 16) (.t 18)⟩, ⟨some 21, none, .load (some 2) (.t 20)⟩, ⟨some 10, none, .alloc [.d (.int .i64 0), .d (.w 0#64)]⟩, ⟨none, none, .store 2 (.t 10) (.t 21)⟩] [2, 6, 7, 8, 10, 16, 17, 18])
    (.seq (.reg false [⟨some 22, none, .mv (.t 8)⟩, ⟨some 23, none, .len (.t 22)⟩, ⟨some 24, none, .bin .sub (.t 23) (.k (.int .i64 1))⟩, ⟨some 11, none, .mv (.t 24)⟩] [2, 6, 7, 8, 10, 11, 16, 17, 18])
    (.seq (.reg false [⟨some 25, none, .faddr 0 (.t 10)⟩, ⟨some 26, none, .load none (.t 25)⟩] [2, 6, 7, 8, 10, 11, 16, 17, 18, 26])
    (.block 2 (.seq (.seq (.reg false [⟨some 47, none, .bin .eql (.t 26) (.k (.int .i64 1))⟩, ⟨some 46, none, .mv (.t 47)⟩] [2, 6, 7, 8, 10, 11, 16, 17, 18, 26, 46])
     (.cond (.t 46) .skip (.reg false [⟨some 48, none, .bin .eql (.t 26) (.k (.int .i64 20))⟩, ⟨some 46, none, .mv (.t 48)⟩] [2, 6, 7, 8, 10, 11, 16, 17, 18, 26, 46])))
     (.kp [(2, .keep), (6, .keep), (7, .keep), (8, .keep), (10, .keep), (11, .keep), (16, .keep), (17, .keep), (18, .keep), (26, .keep), (46, .keep)] F37_t0)))))))
   (.kp [(2, .keep), (6, .keep), (7, .keep), (8, .keep), (16, .keep), (17, .keep), (18, .keep)] F37_t1))))
def F37_l0 : AC := F37_b0
@[simp] theorem u37_0 (T : Nat → Option AFunc) (X : Orc) (F : AFunc) (m : Nat) (K : List AT) (e : Env) (st : St) : go T X F m (.code F37_l0 :: K) e st = go T X F m (.code F37_b0 :: K) e st := rfl
def F37_t2 : AC :=
 (.seq (.reg false [⟨some 108, none, .mv (.t 8)⟩, ⟨some 109, none, .iaddr 2 (.t 108) (.k (.int .i64 0))⟩, ⟨some 110, none, .load (some 2) (.t 109)⟩, ⟨none, none, .store 2 (.t 6) (.t 110)⟩] [6])
 .ret)
def F37_c : AC :=
 (.seq (.reg false [⟨some 6, none, .alloc [.d (.w 0#64), .d (.w 0#64)]⟩] [0, 1, 2, 6])
 (.seq (.reg false [⟨some 12, none, .mv (.t 0)⟩, ⟨some 13, none, .pcall (.f 19) [.t 12]⟩, ⟨some 14, none, .build [.d (.w 0#64), .d (.w 0#64)] [(0, 1, .k (.w 0#64)), (1, 1, .t 13)]⟩, ⟨some 15, none, .bslice 2 [(.w 0#64), (.w 0#64)] 0 []⟩, ⟨some 7, none, .alloc [.d (.w 0#64), .d (.w 0#64)]⟩, ⟨none, none, .store 2 (.t 7) (.t 14)⟩, ⟨some 8, none, .mv (.t 15)⟩] [1, 2, 6, 7, 8])
 (.seq (.seq (.reg false [⟨some 16, none, .mv (.t 1)⟩, ⟨some 17, none, .len (.t 16)⟩, ⟨some 18, none, .mv (.k (.int .i64 0))⟩] [2, 6, 7, 8, 16, 17, 18])
 (.block 0 (.loop [(2, .keep), (6, .keep), (7, .keep), (8, .ow 2), (16, .keep), (17, .keep), (18, .keep)] F37_l0)))
 (.kp [(6, .keep), (8, .keep)] F37_t2))))
def F37 : AFunc := ⟨3, [.cell 6 (some 2)], [], F37_c⟩
/-- impl.join -/
def F77_c : AC :=
 (.seq (.reg false [⟨some 2, none, .box (.t 0)⟩, ⟨some 3, none, .box (.t 1)⟩, ⟨some 4, none, .alloc [.d (.w 0#64), .d (.w 0#64)]⟩] [2, 3, 4])
 (.seq (.reg false [⟨some 5, none, .faddr 0 (.t 2)⟩, ⟨some 6, none, .load none (.t 5)⟩, ⟨some 7, none, .faddr 0 (.t 3)⟩, ⟨some 8, none, .load none (.t 7)⟩, ⟨some 9, none, .min (.t 6) (.t 8)⟩, ⟨some 10, none, .faddr 1 (.t 2)⟩, ⟨some 11, none, .load none (.t 10)⟩, ⟨some 12, none, .faddr 1 (.t 3)⟩, ⟨some 13, none, .load none (.t 12)⟩, ⟨some 14, none, .max (.t 11) (.t 13)⟩, ⟨some 15, none, .build [.d (.w 0#64), .d (.w 0#64)] [(0, 1, .t 9), (1, 1, .t 14)]⟩, ⟨none, none, .store 2 (.t 4) (.t 15)⟩] [4])
 .ret))
def F77 : AFunc := ⟨2, [.cell 4 (some 2)], [], F77_c⟩
/-- impl.spanRound -/
def F99_b0 : AC := (.seq (.reg false [⟨some 31, none, .bin .lss (.t 30) (.t 29)⟩] [1, 2, 5, 13, 14, 15, 28, 29, 30, 31])
      (.seq (.cond (.t 31) .skip (.exit 2))
      (.seq (.block 3 (.seq (.reg false [⟨some 32, none, .iaddr 2 (.t 28) (.t 30)⟩, ⟨some 33, none, .load (some 2) (.t 32)⟩, ⟨some 9, none, .alloc [.d (.int .i64 0), .d .nil]⟩, ⟨none, none, .store 2 (.t 9) (.t 33)⟩] [1, 2, 5, 9, 13, 14, 15, 28, 29, 30])
       (.reg true [⟨some 34, none, .mv (.t 5)⟩, ⟨some 35, none, .faddr 0 (.t 9)⟩, ⟨some 36, none, .load none (.t 35)⟩, ⟨some 37, none, .mv (.t 5)⟩, ⟨some 38, none, .faddr 0 (.t 9)⟩, ⟨some 39, none, .load none (.t 38)⟩, ⟨some 40, none, .iaddr 2 (.t 37) (.t 39)⟩, ⟨some 41, none, .load (some 2) (.t 40)⟩, ⟨some 42, none, .faddr 0 (.t 2)⟩, ⟨some 43, none, .load none (.t 42)⟩, ⟨some 44, none, .faddr 1 (.t 9)⟩, ⟨some 45, none, .load none (.t 44)⟩, ⟨some 46, none, .mv (.t 1)⟩, ⟨some 47, none, .lcall (.f 37) [.t 43, .t 45, .t 46]⟩, ⟨some 48, none, .pcall (.f 77) [.t 41, .t 47]⟩, ⟨some 49, none, .iaddr 2 (.t 34) (.t 36)⟩, ⟨none, none, .store 2 (.t 49) (.t 48)⟩] [1, 2, 5, 13, 14, 15, 28, 29, 30])))
      (.reg false [⟨some 50, none, .bin .add (.t 30) (.k (.int .i64 1))⟩, ⟨some 30, none, .mv (.t 50)⟩] [1, 2, 5, 13, 14, 15, 28, 29, 30]))))
def F99_l0 : AC := F99_b0
@[simp] theorem u99_0 (T : Nat → Option AFunc) (X : Orc) (F : AFunc) (m : Nat) (K : List AT) (e : Env) (st : St) : go T X F m (.code F99_l0 :: K) e st = go T X F m (.code F99_b0 :: K) e st := rfl
def F99_t0 : AC :=
 (.reg false [⟨some 51, none, .bin .add (.t 15) (.k (.int .i64 1))⟩, ⟨some 15, none, .mv (.t 51)⟩] [1, 2, 5, 13, 14, 15])
def F99_b1 : AC := (.seq (.reg false [⟨some 16, none, .bin .lss (.t 15) (.t 14)⟩] [1, 2, 5, 13, 14, 15, 16])
   (.seq (.cond (.t 16) .skip (.exit 0))
   (.seq (.block 1 (.seq (.reg false [⟨some 17, none, .iaddr 2 (.t 13) (.t 15)⟩, ⟨some 18, none, .load (some 2) (.t 17)⟩, ⟨some 7, none, .alloc [.d .nil, .d .nil]⟩, ⟨none, none, .store 2 (.t 7) (.t 18)⟩] [1, 2, 5, 7, 13, 14, 15])
    (.seq (.seq (.reg false [⟨some 19, none, .faddr 0 (.t 2)⟩, ⟨some 20, none, .load none (.t 19)⟩, ⟨some 21, none, .faddr 0 (.t 7)⟩, ⟨some 22, none, .load none (.t 21)⟩, ⟨some 23, none, .mv (.t 1)⟩, ⟨some 24, none, .lcall (.f 37) [.t 20, .t 22, .t 23]⟩, ⟨some 25, none, .build [.d (.w 0#64), .d (.w 0#64)] [(0, 1, .k (.w 0#64)), (1, 1, .k (.w 0#64))]⟩, ⟨some 26, none, .eqs [0, 0] false (.t 24) (.t 25)⟩] [1, 2, 5, 7, 13, 14, 15, 26])
    (.cond (.t 26) (.exit 1) .skip))
    (.seq (.reg false [⟨some 27, none, .faddr 1 (.t 7)⟩, ⟨some 28, none, .load none (.t 27)⟩, ⟨some 29, none, .len (.t 28)⟩, ⟨some 30, none, .mv (.k (.int .i64 0))⟩] [1, 2, 5, 13, 14, 15, 28, 29, 30])
    (.block 2 (.loop [(1, .keep), (2, .keep), (5, .keep), (13, .keep), (14, .keep), (15, .keep), (28, .keep), (29, .keep), (30, .keep)] F99_l0))))))
   (.kp [(1, .keep), (2, .keep), (5, .keep), (13, .keep), (14, .keep), (15, .keep)] F99_t0))))
def F99_l1 : AC := F99_b1
@[simp] theorem u99_1 (T : Nat → Option AFunc) (X : Orc) (F : AFunc) (m : Nat) (K : List AT) (e : Env) (st : St) : go T X F m (.code F99_l1 :: K) e st = go T X F m (.code F99_b1 :: K) e st := rfl
def F99_t1 : AC :=
 (.seq (.reg false [⟨some 52, none, .mv (.t 5)⟩, ⟨some 4, none, .mv (.t 52)⟩] [4])
 .ret)
def F99_c : AC :=
 (.seq (.reg false [⟨some 2, none, .box (.t 0)⟩, ⟨some 4, none, .mv (.k .nil)⟩] [1, 2])
 (.seq (.reg false [⟨some 10, none, .mv (.t 1)⟩, ⟨some 11, none, .call false [] (.f 98) [.t 10]⟩, ⟨some 5, none, .mv (.t 11)⟩] [1, 2, 5])
 (.seq (.seq (.reg false [⟨some 12, none, .faddr 3 (.t 2)⟩, ⟨some 13, none, .load none (.t 12)⟩, ⟨some 14, none, .len (.t 13)⟩, ⟨some 15, none, .mv (.k (.int .i64 0))⟩] [1, 2, 5, 13, 14, 15])
 (.block 0 (.loop [(1, .keep), (2, .keep), (5, .keep), (13, .keep), (14, .keep), (15, .keep)] F99_l1)))
 (.kp [(5, .keep)] F99_t1))))
def F99 : AFunc := ⟨2, [.t 4], [], F99_c⟩
/-- slices.Equal[[]impl.Span,impl.Span] -/
def F100_b0 : AC := (.seq (.reg false [⟨some 14, none, .bin .lss (.t 13) (.t 12)⟩] [0, 1, 12, 13, 14])
   (.seq (.cond (.t 14) .skip (.exit 0))
   (.seq (.block 1 (.seq (.reg false [⟨some 15, none, .mv (.t 13)⟩, ⟨some 5, none, .mv (.t 15)⟩] [0, 1, 5, 12, 13])
    (.seq (.reg true [⟨some 16, none, .mv (.t 0)⟩, ⟨some 17, none, .mv (.t 5)⟩, ⟨some 18, none, .iaddr 2 (.t 16) (.t 17)⟩, ⟨some 19, none, .load (some 2) (.t 18)⟩, ⟨some 20, none, .mv (.t 1)⟩, ⟨some 21, none, .mv (.t 5)⟩, ⟨some 22, none, .iaddr 2 (.t 20) (.t 21)⟩, ⟨some 23, none, .load (some 2) (.t 22)⟩, ⟨some 24, none, .eqs [0, 0] true (.t 19) (.t 23)⟩] [0, 1, 12, 13, 24])
    (.cond (.t 24) (.seq (.reg false [⟨some 4, none, .mv (.k (.bool false))⟩] [4])
     .ret) .skip))))
   (.reg false [⟨some 25, none, .bin .add (.t 13) (.k (.int .i64 1))⟩, ⟨some 13, none, .mv (.t 25)⟩] [0, 1, 12, 13]))))
def F100_l0 : AC := F100_b0
@[simp] theorem u100_0 (T : Nat → Option AFunc) (X : Orc) (F : AFunc) (m : Nat) (K : List AT) (e : Env) (st : St) : go T X F m (.code F100_l0 :: K) e st = go T X F m (.code F100_b0 :: K) e st := rfl
def F100_t0 : AC :=
 (.seq (.reg false [⟨some 4, none, .mv (.k (.bool true))⟩] [4])
 .ret)
def F100_c : AC :=
 (.seq (.reg false [⟨some 4, none, .mv (.k (.bool false))⟩] [0, 1])
 (.seq (.seq (.reg false [⟨some 6, none, .mv (.t 0)⟩, ⟨some 7, none, .len (.t 6)⟩, ⟨some 8, none, .mv (.t 1)⟩, ⟨some 9, none, .len (.t 8)⟩, ⟨some 10, none, .bin .neq (.t 7) (.t 9)⟩] [0, 1, 10])
 (.cond (.t 10) (.seq (.reg false [⟨some 4, none, .mv (.k (.bool false))⟩] [4])
  .ret) .skip))
 (.seq (.seq (.reg false [⟨some 11, none, .mv (.t 0)⟩, ⟨some 12, none, .len (.t 11)⟩, ⟨some 13, none, .mv (.k (.int .i64 0))⟩] [0, 1, 12, 13])
 (.block 0 (.loop [(0, .keep), (1, .keep), (12, .keep), (13, .keep)] F100_l0)))
 (.kp [] F100_t0))))
def F100 : AFunc := ⟨2, [.t 4], [], F100_c⟩
/-- impl.SettleSpans -/
def F101_b0 : AC := (.seq (.reg false [⟨some 26, none, .bin .lss (.t 25) (.t 24)⟩] [3, 9, 24, 25, 26])
   (.seq (.cond (.t 26) .skip (.exit 0))
   (.seq (.block 1 (.reg false [⟨some 27, none, .load (some 4) (.t 3)⟩, ⟨some 28, none, .mv (.t 9)⟩, ⟨some 29, none, .call false [] (.f 99) [.t 27, .t 28]⟩, ⟨some 9, none, .mv (.t 29)⟩] [3, 9, 24, 25]))
   (.reg false [⟨some 30, none, .bin .add (.t 25) (.k (.int .i64 1))⟩, ⟨some 25, none, .mv (.t 30)⟩] [3, 9, 24, 25]))))
def F101_l0 : AC := F101_b0
@[simp] theorem u101_0 (T : Nat → Option AFunc) (X : Orc) (F : AFunc) (m : Nat) (K : List AT) (e : Env) (st : St) : go T X F m (.code F101_l0 :: K) e st = go T X F m (.code F101_b0 :: K) e st := rfl
def F101_t0 : AC :=
 (.seq (.reg false [⟨some 31, none, .mv (.t 9)⟩, ⟨some 32, none, .load (some 4) (.t 3)⟩, ⟨some 33, none, .mv (.t 9)⟩, ⟨some 34, none, .call false [] (.f 99) [.t 32, .t 33]⟩, ⟨some 35, none, .mv (.t 9)⟩, ⟨some 36, none, .lcall (.f 100) [.t 34, .t 35]⟩, ⟨some 6, none, .mv (.t 31)⟩, ⟨some 7, none, .mv (.t 36)⟩, ⟨some 8, none, .mv (.k (.bool true))⟩] [6, 7, 8])
 .ret)
def F101_c : AC :=
 (.seq (.reg false [⟨some 3, none, .box (.t 0)⟩, ⟨some 6, none, .mv (.k .nil)⟩, ⟨some 7, none, .mv (.k (.bool false))⟩, ⟨some 8, none, .mv (.k (.bool false))⟩] [1, 2, 3])
 (.seq (.seq (.reg false [⟨some 10, none, .load (some 4) (.t 3)⟩, ⟨some 11, none, .mv (.t 1)⟩, ⟨some 12, none, .lcall (.f 97) [.t 10, .t 11]⟩, ⟨some 13, none, .un .not (.t 12)⟩, ⟨some 14, none, .mv (.t 13)⟩, ⟨some 15, (some (14, false)), .mv (.t 2)⟩, ⟨some 16, (some (14, false)), .bin .lss (.t 15) (.k (.int .i64 0))⟩, ⟨some 17, none, .pick (.t 14) (.k (.bool true)) (.t 16)⟩, ⟨some 18, none, .mv (.t 17)⟩, ⟨some 19, (some (18, false)), .mv (.t 2)⟩, ⟨some 20, (some (18, false)), .bin .gtr (.t 19) (.k (.int .i64 20))⟩, ⟨some 21, none, .pick (.t 18) (.k (.bool true)) (.t 20)⟩] [1, 2, 3, 21])
 (.cond (.t 21) (.seq (.reg false [⟨some 6, none, .mv (.k .nil)⟩, ⟨some 7, none, .mv (.k (.bool false))⟩, ⟨some 8, none, .mv (.k (.bool false))⟩] [6, 7, 8])
  .ret) .skip))
 (.seq (.reg false [⟨some 22, none, .mv (.t 1)⟩, ⟨some 23, none, .call false [] (.f 98) [.t 22]⟩, ⟨some 9, none, .mv (.t 23)⟩] [2, 3, 9])
 (.seq (.seq (.reg false [⟨some 24, none, .mv (.t 2)⟩, ⟨some 25, none, .mv (.k (.int .i64 0))⟩] [3, 9, 24, 25])
 (.block 0 (.loop [(3, .keep), (9, .keep), (24, .keep), (25, .keep)] F101_l0)))
 (.kp [(3, .keep), (9, .keep)] F101_t0)))))
def F101 : AFunc := ⟨3, [.t 6, .t 7, .t 8], [], F101_c⟩
/-- spec.l1In -/
def F39_c : AC :=
 (.seq (.reg false [⟨some 6, none, .mv (.k (.bool false))⟩] [0, 1, 2])
 (.seq (.reg false [⟨some 7, none, .mv (.t 0)⟩, ⟨some 8, none, .mv (.t 1)⟩, ⟨some 9, none, .bin .geq (.t 7) (.t 8)⟩, ⟨some 10, none, .mv (.t 9)⟩, ⟨some 11, (some (10, true)), .mv (.t 0)⟩, ⟨some 12, (some (10, true)), .mv (.t 2)⟩, ⟨some 13, (some (10, true)), .bin .leq (.t 11) (.t 12)⟩, ⟨some 14, none, .pick (.t 10) (.t 13) (.k (.bool false))⟩, ⟨some 6, none, .mv (.t 14)⟩] [6])
 .ret))
def F39 : AFunc := ⟨3, [.t 6], [], F39_c⟩
/-- spec.l1Wide -/
def F41_c : AC :=
 (.seq (.reg false [⟨some 2, none, .mv (.k (.bool false))⟩] [0])
 (.seq (.reg false [⟨some 3, none, .mv (.t 0)⟩, ⟨some 4, none, .pcall (.f 39) [.t 3, .k (.int .i64 1), .k (.int .i64 64)]⟩, ⟨some 2, none, .mv (.t 4)⟩] [2])
 .ret))
def F41 : AFunc := ⟨1, [.t 2], [], F41_c⟩
/-- spec.GoodWord -/
def F42_c : AC :=
 (.seq (.reg false [⟨some 4, none, .mv (.k (.bool false))⟩] [0, 1])
 (.seq (.reg false [⟨some 5, none, .mv (.t 0)⟩, ⟨some 6, none, .pcall (.f 41) [.t 5]⟩, ⟨some 7, none, .mv (.t 6)⟩, ⟨some 8, (some (7, true)), .mv (.t 0)⟩, ⟨some 9, (some (7, true)), .mv (.t 1)⟩, ⟨some 10, (some (7, true)), .pcall (.f 6) [.t 8, .t 9]⟩, ⟨some 11, (some (7, true)), .mv (.t 1)⟩, ⟨some 12, (some (7, true)), .bin .eql (.t 10) (.t 11)⟩, ⟨some 13, none, .pick (.t 7) (.t 12) (.k (.bool false))⟩, ⟨some 4, none, .mv (.t 13)⟩] [4])
 .ret))
def F42 : AFunc := ⟨2, [.t 4], [], F42_c⟩
/-- spec.l1Both -/
def F46_c : AC :=
 (.seq (.reg false [⟨some 6, none, .mv (.k (.bool false))⟩] [0, 1, 2])
 (.seq (.reg false [⟨some 7, none, .mv (.t 0)⟩, ⟨some 8, none, .mv (.t 1)⟩, ⟨some 9, none, .pcall (.f 42) [.t 7, .t 8]⟩, ⟨some 10, none, .mv (.t 9)⟩, ⟨some 11, (some (10, true)), .mv (.t 0)⟩, ⟨some 12, (some (10, true)), .mv (.t 2)⟩, ⟨some 13, (some (10, true)), .pcall (.f 42) [.t 11, .t 12]⟩, ⟨some 14, none, .pick (.t 10) (.t 13) (.k (.bool false))⟩, ⟨some 6, none, .mv (.t 14)⟩] [6])
 .ret))
def F46 : AFunc := ⟨3, [.t 6], [], F46_c⟩
/-- spec.GoodSpan -/
def F47_c : AC :=
 (.seq (.reg false [⟨some 3, none, .box (.t 1)⟩, ⟨some 4, none, .mv (.k (.bool false))⟩] [0, 3])
 (.seq (.reg false [⟨some 5, none, .mv (.t 0)⟩, ⟨some 6, none, .faddr 0 (.t 3)⟩, ⟨some 7, none, .load none (.t 6)⟩, ⟨some 8, none, .faddr 1 (.t 3)⟩, ⟨some 9, none, .load none (.t 8)⟩, ⟨some 10, none, .pcall (.f 46) [.t 5, .t 7, .t 9]⟩, ⟨some 11, none, .mv (.t 10)⟩, ⟨some 12, (some (11, true)), .faddr 0 (.t 3)⟩, ⟨some 13, (some (11, true)), .load none (.t 12)⟩, ⟨some 14, (some (11, true)), .faddr 1 (.t 3)⟩, ⟨some 15, (some (11, true)), .load none (.t 14)⟩, ⟨some 16, (some (11, true)), .bin .leq (.t 13) (.t 15)⟩, ⟨some 17, none, .pick (.t 11) (.t 16) (.k (.bool false))⟩, ⟨some 4, none, .mv (.t 17)⟩] [4])
 .ret))
def F47 : AFunc := ⟨2, [.t 4], [], F47_c⟩
/-- spec.l18Spans -/
def F48_b0 : AC := (.seq (.reg false [⟨some 14, none, .bin .lss (.t 13) (.t 12)⟩] [0, 11, 12, 13, 14])
   (.seq (.cond (.t 14) .skip (.exit 0))
   (.seq (.block 1 (.seq (.reg false [⟨some 15, none, .iaddr 2 (.t 11) (.t 13)⟩, ⟨some 16, none, .load (some 2) (.t 15)⟩, ⟨some 6, none, .alloc [.d (.w 0#64), .d (.w 0#64)]⟩, ⟨none, none, .store 2 (.t 6) (.t 16)⟩] [0, 6, 11, 12, 13])
    (.seq (.reg false [⟨some 17, none, .mv (.t 0)⟩, ⟨some 18, none, .load (some 2) (.t 6)⟩, ⟨some 19, none, .pcall (.f 47) [.t 17, .t 18]⟩, ⟨some 20, none, .un .not (.t 19)⟩] [0, 11, 12, 13, 20])
    (.cond (.t 20) (.seq (.reg false [⟨some 4, none, .mv (.k (.bool false))⟩] [4])
     .ret) .skip))))
   (.reg false [⟨some 21, none, .bin .add (.t 13) (.k (.int .i64 1))⟩, ⟨some 13, none, .mv (.t 21)⟩] [0, 11, 12, 13]))))
def F48_l0 : AC := F48_b0
@[simp] theorem u48_0 (T : Nat → Option AFunc) (X : Orc) (F : AFunc) (m : Nat) (K : List AT) (e : Env) (st : St) : go T X F m (.code F48_l0 :: K) e st = go T X F m (.code F48_b0 :: K) e st := rfl
def F48_t0 : AC :=
 (.seq (.reg false [⟨some 4, none, .mv (.k (.bool true))⟩] [4])
 .ret)
def F48_c : AC :=
 (.seq (.reg false [⟨some 4, none, .mv (.k (.bool false))⟩] [0, 1])
 (.seq (.seq (.reg false [⟨some 7, none, .mv (.t 1)⟩, ⟨some 8, none, .len (.t 7)⟩, ⟨some 9, none, .pcall (.f 39) [.t 8, .k (.int .i64 1), .k (.int .i64 4)]⟩, ⟨some 10, none, .un .not (.t 9)⟩] [0, 1, 10])
 (.cond (.t 10) (.seq (.reg false [⟨some 4, none, .mv (.k (.bool false))⟩] [4])
  .ret) .skip))
 (.seq (.seq (.reg false [⟨some 11, none, .mv (.t 1)⟩, ⟨some 12, none, .len (.t 11)⟩, ⟨some 13, none, .mv (.k (.int .i64 0))⟩] [0, 11, 12, 13])
 (.block 0 (.loop [(0, .keep), (11, .keep), (12, .keep), (13, .keep)] F48_l0)))
 (.kp [] F48_t0))))
def F48 : AFunc := ⟨2, [.t 4], [], F48_c⟩
/-- spec.l2Need -/
def F40_c : AC :=
 (.seq (.reg false [⟨some 2, none, .mv (.k (.int .i64 0))⟩, ⟨some 3, none, .mv (.k (.int .i64 0))⟩, ⟨some 4, none, .mv (.k (.int .i64 0))⟩] [0])
 (.seq (.block 0 (.seq (.reg false [⟨some 6, none, .mv (.t 0)⟩, ⟨some 7, none, .bin .eql (.t 6) (.k (.int .i64 1))⟩, ⟨some 8, none, .mv (.t 7)⟩, ⟨some 9, (some (8, false)), .mv (.t 0)⟩, ⟨some 10, (some (8, false)), .bin .eql (.t 9) (.k (.int .i64 2))⟩, ⟨some 11, none, .pick (.t 8) (.k (.bool true)) (.t 10)⟩, ⟨some 5, none, .mv (.t 11)⟩] [0, 5])
  (.cond (.t 5) (.seq (.reg false [⟨some 2, none, .mv (.k (.int .i64 0))⟩, ⟨some 3, none, .mv (.k (.int .i64 1))⟩, ⟨some 4, none, .mv (.k (.int .i64 1))⟩] [2, 3, 4])
   .ret) (.seq (.reg false [⟨some 13, none, .mv (.t 0)⟩, ⟨some 14, none, .bin .eql (.t 13) (.k (.int .i64 20))⟩, ⟨some 12, none, .mv (.t 14)⟩] [0, 12])
   (.cond (.t 12) (.seq (.reg false [⟨some 2, none, .mv (.k (.int .i64 0))⟩, ⟨some 3, none, .mv (.k (.int .i64 2))⟩, ⟨some 4, none, .mv (.k (.int .i64 2))⟩] [2, 3, 4])
    .ret) (.seq (.reg false [⟨some 16, none, .mv (.t 0)⟩, ⟨some 17, none, .bin .eql (.t 16) (.k (.int .i64 13))⟩, ⟨some 15, none, .mv (.t 17)⟩] [0, 15])
    (.cond (.t 15) (.seq (.reg false [⟨some 2, none, .mv (.k (.int .i64 1))⟩, ⟨some 3, none, .mv (.k (.int .i64 1))⟩, ⟨some 4, none, .mv (.k (.int .i64 1))⟩] [2, 3, 4])
     .ret) (.seq (.reg false [⟨some 19, none, .mv (.t 0)⟩, ⟨some 20, none, .bin .eql (.t 19) (.k (.int .i64 19))⟩, ⟨some 18, none, .mv (.t 20)⟩] [0, 18])
     (.cond (.t 18) (.seq (.reg false [⟨some 2, none, .mv (.k (.int .i64 1))⟩, ⟨some 3, none, .mv (.k (.int .i64 2))⟩, ⟨some 4, none, .mv (.k (.int .i64 2))⟩] [2, 3, 4])
      .ret) (.seq (.reg false [⟨some 22, none, .mv (.t 0)⟩, ⟨some 23, none, .pcall (.f 39) [.t 22, .k (.int .i64 3), .k (.int .i64 12)]⟩, ⟨some 21, none, .mv (.t 23)⟩] [0, 21])
      (.cond (.t 21) (.seq (.reg false [⟨some 2, none, .mv (.k (.int .i64 2))⟩, ⟨some 3, none, .mv (.k (.int .i64 1))⟩, ⟨some 4, none, .mv (.k (.int .i64 1))⟩] [2, 3, 4])
       .ret) (.seq (.reg false [⟨some 25, none, .mv (.t 0)⟩, ⟨some 26, none, .pcall (.f 39) [.t 25, .k (.int .i64 14), .k (.int .i64 16)]⟩, ⟨some 24, none, .mv (.t 26)⟩] [0, 24])
       (.cond (.t 24) (.seq (.reg false [⟨some 2, none, .mv (.k (.int .i64 2))⟩, ⟨some 3, none, .mv (.k (.int .i64 1))⟩, ⟨some 4, none, .mv (.k (.int .i64 2))⟩] [2, 3, 4])
        .ret) (.seq (.reg false [⟨some 28, none, .mv (.t 0)⟩, ⟨some 29, none, .bin .eql (.t 28) (.k (.int .i64 17))⟩, ⟨some 30, none, .mv (.t 29)⟩, ⟨some 31, (some (30, false)), .mv (.t 0)⟩, ⟨some 32, (some (30, false)), .bin .eql (.t 31) (.k (.int .i64 18))⟩, ⟨some 33, none, .pick (.t 30) (.k (.bool true)) (.t 32)⟩, ⟨some 27, none, .mv (.t 33)⟩] [27])
        (.cond (.t 27) (.seq (.reg false [⟨some 2, none, .mv (.k (.int .i64 2))⟩, ⟨some 3, none, .mv (.k (.int .i64 2))⟩, ⟨some 4, none, .mv (.k (.int .i64 2))⟩] [2, 3, 4])
         .ret) .skip)))))))))))))))
 (.seq (.reg false [⟨some 2, none, .mv (.k (.int .i64 0))⟩, ⟨some 3, none, .mv (.k (.int .i64 0))⟩, ⟨some 4, none, .mv (.k (.int .i64 0))⟩] [2, 3, 4])
 .ret)))
def F40 : AFunc := ⟨1, [.t 2, .t 3, .t 4], [], F40_c⟩
/-- spec.l2N -/
def F43_c : AC :=
 (.seq (.reg false [⟨some 5, none, .box (.t 2)⟩, ⟨some 6, none, .mv (.k (.bool false))⟩] [0, 1, 5])
 (.seq (.seq (.reg false [⟨some 7, none, .faddr 0 (.t 5)⟩, ⟨some 8, none, .load none (.t 7)⟩] [0, 1, 5, 8])
 (.block 0 (.seq (.reg false [⟨some 10, none, .bin .eql (.t 8) (.k (.int .i64 1))⟩, ⟨some 9, none, .mv (.t 10)⟩] [0, 1, 5, 8, 9])
  (.cond (.t 9) (.seq (.reg false [⟨some 11, none, .mv (.t 0)⟩, ⟨some 12, none, .faddr 1 (.t 5)⟩, ⟨some 13, none, .load none (.t 12)⟩, ⟨some 14, none, .pcall (.f 42) [.t 11, .t 13]⟩, ⟨some 6, none, .mv (.t 14)⟩] [6])
   .ret) (.seq (.reg false [⟨some 16, none, .bin .eql (.t 8) (.k (.int .i64 2))⟩, ⟨some 15, none, .mv (.t 16)⟩] [1, 5, 8, 15])
   (.cond (.t 15) (.seq (.reg false [⟨some 17, none, .faddr 1 (.t 5)⟩, ⟨some 18, none, .load none (.t 17)⟩, ⟨some 19, none, .mv (.t 1)⟩, ⟨some 20, none, .conv .u64 (.t 19)⟩, ⟨some 21, none, .bin .lss (.t 18) (.t 20)⟩, ⟨some 6, none, .mv (.t 21)⟩] [6])
    .ret) (.seq (.reg false [⟨some 23, none, .bin .eql (.t 8) (.k (.int .i64 20))⟩, ⟨some 22, none, .mv (.t 23)⟩] [5, 22])
    (.cond (.t 22) (.seq (.reg false [⟨some 24, none, .faddr 1 (.t 5)⟩, ⟨some 25, none, .load none (.t 24)⟩, ⟨some 26, none, .bin .lss (.t 25) (.k (.w 2#64))⟩, ⟨some 6, none, .mv (.t 26)⟩] [6])
     .ret) .skip))))))))
 (.seq (.reg false [⟨some 27, none, .faddr 1 (.t 5)⟩, ⟨some 28, none, .load none (.t 27)⟩, ⟨some 29, none, .bin .eql (.t 28) (.k (.w 0#64))⟩, ⟨some 6, none, .mv (.t 29)⟩] [6])
 .ret)))
def F43 : AFunc := ⟨3, [.t 6], [], F43_c⟩
/-- spec.l2Kind -/
def F44_b0 : AC := (.seq (.seq (.reg false [⟨some 55, none, .mv (.t 10)⟩, ⟨some 56, none, .bin .gtr (.t 55) (.k (.int .i64 0))⟩] [0, 1, 7, 10, 11, 12, 27, 28, 29, 56])
      (.cond (.t 56) .skip (.exit 2)))
      (.seq (.block 3 (.seq (.seq (.reg false [⟨some 59, none, .mv (.t 7)⟩, ⟨some 60, none, .mv (.t 7)⟩, ⟨some 61, none, .len (.t 60)⟩, ⟨some 62, none, .bin .sub (.t 61) (.k (.int .i64 1))⟩, ⟨some 63, none, .iaddr 1 (.t 59) (.t 62)⟩, ⟨some 64, none, .load none (.t 63)⟩, ⟨some 65, none, .mv (.t 11)⟩, ⟨some 66, none, .bin .neq (.t 64) (.t 65)⟩] [0, 1, 7, 10, 11, 12, 27, 28, 29, 66])
       (.cond (.t 66) (.seq (.reg false [⟨some 6, none, .mv (.k (.int .i64 0))⟩] [6])
        .ret) .skip))
       (.reg false [⟨some 67, none, .mv (.t 7)⟩, ⟨some 68, none, .mv (.t 7)⟩, ⟨some 69, none, .len (.t 68)⟩, ⟨some 70, none, .bin .sub (.t 69) (.k (.int .i64 1))⟩, ⟨some 71, none, .slice 1 (.t 67) none (some (.t 70))⟩, ⟨some 7, none, .mv (.t 71)⟩] [0, 1, 7, 10, 11, 12, 27, 28, 29])))
      (.reg false [⟨some 57, none, .mv (.t 10)⟩, ⟨some 58, none, .bin .sub (.t 57) (.k (.int .i64 1))⟩, ⟨some 10, none, .mv (.t 58)⟩] [0, 1, 7, 10, 11, 12, 27, 28, 29])))
def F44_l0 : AC := F44_b0
@[simp] theorem u44_0 (T : Nat → Option AFunc) (X : Orc) (F : AFunc) (m : Nat) (K : List AT) (e : Env) (st : St) : go T X F m (.code F44_l0 :: K) e st = go T X F m (.code F44_b0 :: K) e st := rfl
def F44_t0 : AC :=
 (.reg false [⟨some 72, none, .mv (.t 7)⟩, ⟨some 73, none, .mv (.t 12)⟩, ⟨some 74, none, .bslice 1 [(.int .i64 0)] 1 [(0, .t 73)]⟩, ⟨some 75, none, .append 1 (.t 72) (.t 74)⟩, ⟨some 7, none, .mv (.t 75)⟩] [0, 1, 7, 27, 28, 29])
def F44_t1 : AC :=
 (.reg false [⟨some 76, none, .bin .add (.t 29) (.k (.int .i64 1))⟩, ⟨some 29, none, .mv (.t 76)⟩] [0, 1, 7, 27, 28, 29])
def F44_b1 : AC := (.seq (.reg false [⟨some 30, none, .bin .lss (.t 29) (.t 28)⟩] [0, 1, 7, 27, 28, 29, 30])
   (.seq (.cond (.t 30) .skip (.exit 0))
   (.seq (.block 1 (.seq (.reg false [⟨some 31, none, .iaddr 2 (.t 27) (.t 29)⟩, ⟨some 32, none, .load (some 2) (.t 31)⟩, ⟨some 9, none, .alloc [.d (.int .i64 0), .d (.w 0#64)]⟩, ⟨none, none, .store 2 (.t 9) (.t 32)⟩] [0, 1, 7, 9, 27, 28, 29])
    (.seq (.reg false [⟨some 34, none, .faddr 0 (.t 9)⟩, ⟨some 35, none, .load none (.t 34)⟩, ⟨some 36, none, .pcall (.f 40) [.t 35]⟩, ⟨some 33, none, .mv (.t 36)⟩, ⟨some 37, none, .ext (.t 33) 0⟩, ⟨some 38, none, .ext (.t 33) 1⟩, ⟨some 39, none, .ext (.t 33) 2⟩, ⟨some 10, none, .mv (.t 37)⟩, ⟨some 11, none, .mv (.t 38)⟩, ⟨some 12, none, .mv (.t 39)⟩] [0, 1, 7, 9, 10, 11, 12, 27, 28, 29])
    (.seq (.seq (.reg false [⟨some 40, none, .mv (.t 12)⟩, ⟨some 41, none, .bin .eql (.t 40) (.k (.int .i64 0))⟩, ⟨some 42, none, .mv (.t 41)⟩, ⟨some 43, (some (42, false)), .mv (.t 0)⟩, ⟨some 44, (some (42, false)), .mv (.t 1)⟩, ⟨some 45, (some (42, false)), .load (some 2) (.t 9)⟩, ⟨some 46, (some (42, false)), .pcall (.f 43) [.t 43, .t 44, .t 45]⟩, ⟨some 47, (some (42, false)), .un .not (.t 46)⟩, ⟨some 48, none, .pick (.t 42) (.k (.bool true)) (.t 47)⟩, ⟨some 49, none, .mv (.t 48)⟩, ⟨some 50, (some (49, false)), .mv (.t 7)⟩, ⟨some 51, (some (49, false)), .len (.t 50)⟩, ⟨some 52, (some (49, false)), .mv (.t 10)⟩, ⟨some 53, (some (49, false)), .bin .lss (.t 51) (.t 52)⟩, ⟨some 54, none, .pick (.t 49) (.k (.bool true)) (.t 53)⟩] [0, 1, 7, 10, 11, 12, 27, 28, 29, 54])
    (.cond (.t 54) (.seq (.reg false [⟨some 6, none, .mv (.k (.int .i64 0))⟩] [6])
     .ret) .skip))
    (.seq (.block 2 (.loop [(0, .keep), (1, .keep), (7, .keep), (10, .keep), (11, .keep), (12, .keep), (27, .keep), (28, .keep), (29, .keep)] F44_l0))
    (.kp [(0, .keep), (1, .keep), (7, .keep), (12, .keep), (27, .keep), (28, .keep), (29, .keep)] F44_t0))))))
   (.kp [(0, .keep), (1, .keep), (7, .keep), (27, .keep), (28, .keep), (29, .keep)] F44_t1))))
def F44_l1 : AC := F44_b1
@[simp] theorem u44_1 (T : Nat → Option AFunc) (X : Orc) (F : AFunc) (m : Nat) (K : List AT) (e : Env) (st : St) : go T X F m (.code F44_l1 :: K) e st = go T X F m (.code F44_b1 :: K) e st := rfl
def F44_t2 : AC :=
 (.seq (.seq (.reg false [⟨some 77, none, .mv (.t 7)⟩, ⟨some 78, none, .len (.t 77)⟩, ⟨some 79, none, .bin .neq (.t 78) (.k (.int .i64 1))⟩] [7, 79])
 (.cond (.t 79) (.seq (.reg false [⟨some 6, none, .mv (.k (.int .i64 0))⟩] [6])
  .ret) .skip))
 (.seq (.reg false [⟨some 80, none, .mv (.t 7)⟩, ⟨some 81, none, .iaddr 1 (.t 80) (.k (.int .i64 0))⟩, ⟨some 82, none, .load none (.t 81)⟩, ⟨some 6, none, .mv (.t 82)⟩] [6])
 .ret))
def F44_c : AC :=
 (.seq (.reg false [⟨some 6, none, .mv (.k (.int .i64 0))⟩] [0, 1, 2])
 (.seq (.seq (.reg false [⟨some 13, none, .mv (.t 0)⟩, ⟨some 14, none, .pcall (.f 41) [.t 13]⟩, ⟨some 15, none, .un .not (.t 14)⟩, ⟨some 16, none, .mv (.t 15)⟩, ⟨some 17, (some (16, false)), .mv (.t 1)⟩, ⟨some 18, (some (16, false)), .pcall (.f 39) [.t 17, .k (.int .i64 1), .k (.int .i64 4)]⟩, ⟨some 19, (some (16, false)), .un .not (.t 18)⟩, ⟨some 20, none, .pick (.t 16) (.k (.bool true)) (.t 19)⟩, ⟨some 21, none, .mv (.t 20)⟩, ⟨some 22, (some (21, false)), .mv (.t 2)⟩, ⟨some 23, (some (21, false)), .len (.t 22)⟩, ⟨some 24, (some (21, false)), .pcall (.f 39) [.t 23, .k (.int .i64 1), .k (.int .i64 48)]⟩, ⟨some 25, (some (21, false)), .un .not (.t 24)⟩, ⟨some 26, none, .pick (.t 21) (.k (.bool true)) (.t 25)⟩] [0, 1, 2, 26])
 (.cond (.t 26) (.seq (.reg false [⟨some 6, none, .mv (.k (.int .i64 0))⟩] [6])
  .ret) .skip))
 (.seq (.reg false [⟨some 7, none, .mv (.k .nil)⟩] [0, 1, 2, 7])
 (.seq (.seq (.reg false [⟨some 27, none, .mv (.t 2)⟩, ⟨some 28, none, .len (.t 27)⟩, ⟨some 29, none, .mv (.k (.int .i64 0))⟩] [0, 1, 7, 27, 28, 29])
 (.block 0 (.loop [(0, .keep), (1, .keep), (7, .ow 1), (27, .keep), (28, .keep), (29, .keep)] F44_l1)))
 (.kp [(7, .keep)] F44_t2)))))
def F44 : AFunc := ⟨3, [.t 6], [], F44_c⟩
/-- spec.l7Asks -/
def F102_c : AC :=
 (.seq (.reg false [⟨some 2, none, .box (.t 0)⟩, ⟨some 4, none, .mv (.k (.bool false))⟩] [1, 2])
 (.seq (.reg false [⟨some 5, none, .faddr 0 (.t 2)⟩, ⟨some 6, none, .load none (.t 5)⟩, ⟨some 7, none, .faddr 1 (.t 2)⟩, ⟨some 8, none, .load none (.t 7)⟩, ⟨some 9, none, .mv (.t 1)⟩, ⟨some 10, none, .lcall (.f 44) [.t 6, .t 8, .t 9]⟩, ⟨some 11, none, .bin .eql (.t 10) (.k (.int .i64 2))⟩, ⟨some 4, none, .mv (.t 11)⟩] [4])
 .ret))
def F102 : AFunc := ⟨2, [.t 4], [], F102_c⟩
/-- spec.l7Command -/
def F103_b0 : AC := (.seq (.reg false [⟨some 24, none, .bin .lss (.t 23) (.t 22)⟩] [2, 3, 21, 22, 23, 24])
   (.seq (.cond (.t 24) .skip (.exit 0))
   (.seq (.block 1 (.seq (.reg false [⟨some 25, none, .mv (.t 23)⟩, ⟨some 26, none, .iaddr 2 (.t 21) (.t 23)⟩, ⟨some 27, none, .load (some 2) (.t 26)⟩, ⟨some 6, none, .alloc [.d (.int .i64 0), .d .nil]⟩, ⟨some 5, none, .mv (.t 25)⟩, ⟨none, none, .store 2 (.t 6) (.t 27)⟩] [2, 3, 5, 6, 21, 22, 23])
    (.seq (.reg true [⟨some 28, none, .faddr 0 (.t 6)⟩, ⟨some 29, none, .load none (.t 28)⟩, ⟨some 30, none, .faddr 1 (.t 2)⟩, ⟨some 31, none, .load none (.t 30)⟩, ⟨some 32, none, .bin .sub (.t 31) (.k (.int .i64 1))⟩, ⟨some 33, none, .pcall (.f 39) [.t 29, .k (.int .i64 0), .t 32]⟩, ⟨some 34, none, .un .not (.t 33)⟩, ⟨some 35, none, .mv (.t 34)⟩, ⟨some 36, (some (35, false)), .mv (.t 5)⟩, ⟨some 37, (some (35, false)), .bin .gtr (.t 36) (.k (.int .i64 0))⟩, ⟨some 38, (some (35, false)), .mv (.t 37)⟩, ⟨some 39, (some (38, true)), .faddr 1 (.t 3)⟩, ⟨some 40, (some (38, true)), .load none (.t 39)⟩, ⟨some 41, (some (38, true)), .mv (.t 5)⟩, ⟨some 42, (some (38, true)), .bin .sub (.t 41) (.k (.int .i64 1))⟩, ⟨some 43, (some (38, true)), .iaddr 2 (.t 40) (.t 42)⟩, ⟨some 44, (some (38, true)), .faddr 0 (.t 43)⟩, ⟨some 45, (some (38, true)), .load none (.t 44)⟩, ⟨some 46, (some (38, true)), .faddr 0 (.t 6)⟩, ⟨some 47, (some (38, true)), .load none (.t 46)⟩, ⟨some 48, (some (38, true)), .bin .geq (.t 45) (.t 47)⟩, ⟨some 49, (some (35, false)), .pick (.t 38) (.t 48) (.k (.bool false))⟩, ⟨some 50, none, .pick (.t 35) (.k (.bool true)) (.t 49)⟩, ⟨some 51, none, .mv (.t 50)⟩, ⟨some 52, (some (51, false)), .faddr 0 (.t 2)⟩, ⟨some 53, (some (51, false)), .load none (.t 52)⟩, ⟨some 54, (some (51, false)), .faddr 1 (.t 2)⟩, ⟨some 55, (some (51, false)), .load none (.t 54)⟩, ⟨some 56, (some (51, false)), .faddr 1 (.t 6)⟩, ⟨some 57, (some (51, false)), .load none (.t 56)⟩, ⟨some 58, (some (51, false)), .lcall (.f 44) [.t 53, .t 55, .t 57]⟩, ⟨some 59, (some (51, false)), .bin .neq (.t 58) (.k (.int .i64 1))⟩, ⟨some 60, none, .pick (.t 51) (.k (.bool true)) (.t 59)⟩] [2, 3, 21, 22, 23, 60])
    (.cond (.t 60) (.seq (.reg false [⟨some 4, none, .mv (.k (.bool false))⟩] [4])
     .ret) .skip))))
   (.reg false [⟨some 61, none, .bin .add (.t 23) (.k (.int .i64 1))⟩, ⟨some 23, none, .mv (.t 61)⟩] [2, 3, 21, 22, 23]))))
def F103_l0 : AC := F103_b0
@[simp] theorem u103_0 (T : Nat → Option AFunc) (X : Orc) (F : AFunc) (m : Nat) (K : List AT) (e : Env) (st : St) : go T X F m (.code F103_l0 :: K) e st = go T X F m (.code F103_b0 :: K) e st := rfl
def F103_t0 : AC :=
 (.seq (.reg false [⟨some 4, none, .mv (.k (.bool true))⟩] [4])
 .ret)
def F103_c : AC :=
 (.seq (.reg false [⟨some 2, none, .box (.t 0)⟩, ⟨some 3, none, .box (.t 1)⟩, ⟨some 4, none, .mv (.k (.bool false))⟩] [2, 3])
 (.seq (.seq (.reg false [⟨some 7, none, .load (some 4) (.t 2)⟩, ⟨some 8, none, .faddr 0 (.t 3)⟩, ⟨some 9, none, .load none (.t 8)⟩, ⟨some 10, none, .lcall (.f 102) [.t 7, .t 9]⟩, ⟨some 11, none, .un .not (.t 10)⟩, ⟨some 12, none, .mv (.t 11)⟩, ⟨some 13, (some (12, false)), .faddr 1 (.t 3)⟩, ⟨some 14, (some (12, false)), .load none (.t 13)⟩, ⟨some 15, (some (12, false)), .len (.t 14)⟩, ⟨some 16, (some (12, false)), .faddr 1 (.t 2)⟩, ⟨some 17, (some (12, false)), .load none (.t 16)⟩, ⟨some 18, (some (12, false)), .bin .gtr (.t 15) (.t 17)⟩, ⟨some 19, none, .pick (.t 12) (.k (.bool true)) (.t 18)⟩] [2, 3, 19])
 (.cond (.t 19) (.seq (.reg false [⟨some 4, none, .mv (.k (.bool false))⟩] [4])
  .ret) .skip))
 (.seq (.seq (.reg false [⟨some 20, none, .faddr 1 (.t 3)⟩, ⟨some 21, none, .load none (.t 20)⟩, ⟨some 22, none, .len (.t 21)⟩, ⟨some 23, none, .mv (.k (.int .i64 0))⟩] [2, 3, 21, 22, 23])
 (.block 0 (.loop [(2, .keep), (3, .keep), (21, .keep), (22, .keep), (23, .keep)] F103_l0)))
 (.kp [] F103_t0))))
def F103 : AFunc := ⟨2, [.t 4], [], F103_c⟩
/-- spec.GoodProgram -/
def F104_b0 : AC := (.seq (.reg false [⟨some 21, none, .bin .lss (.t 20) (.t 19)⟩] [1, 18, 19, 20, 21])
   (.seq (.cond (.t 21) .skip (.exit 0))
   (.seq (.block 1 (.seq (.reg false [⟨some 22, none, .iaddr 2 (.t 18) (.t 20)⟩, ⟨some 23, none, .load (some 2) (.t 22)⟩, ⟨some 4, none, .alloc [.d .nil, .d .nil]⟩, ⟨none, none, .store 2 (.t 4) (.t 23)⟩] [1, 4, 18, 19, 20])
    (.seq (.reg false [⟨some 24, none, .load (some 4) (.t 1)⟩, ⟨some 25, none, .load (some 2) (.t 4)⟩, ⟨some 26, none, .lcall (.f 103) [.t 24, .t 25]⟩, ⟨some 27, none, .un .not (.t 26)⟩] [1, 18, 19, 20, 27])
    (.cond (.t 27) (.seq (.reg false [⟨some 2, none, .mv (.k (.bool false))⟩] [2])
     .ret) .skip))))
   (.reg false [⟨some 28, none, .bin .add (.t 20) (.k (.int .i64 1))⟩, ⟨some 20, none, .mv (.t 28)⟩] [1, 18, 19, 20]))))
def F104_l0 : AC := F104_b0
@[simp] theorem u104_0 (T : Nat → Option AFunc) (X : Orc) (F : AFunc) (m : Nat) (K : List AT) (e : Env) (st : St) : go T X F m (.code F104_l0 :: K) e st = go T X F m (.code F104_b0 :: K) e st := rfl
def F104_t0 : AC :=
 (.seq (.reg false [⟨some 2, none, .mv (.k (.bool true))⟩] [2])
 .ret)
def F104_c : AC :=
 (.seq (.reg false [⟨some 1, none, .box (.t 0)⟩, ⟨some 2, none, .mv (.k (.bool false))⟩] [1])
 (.seq (.seq (.reg false [⟨some 5, none, .load (some 4) (.t 1)⟩, ⟨some 6, none, .faddr 2 (.t 1)⟩, ⟨some 7, none, .load none (.t 6)⟩, ⟨some 8, none, .lcall (.f 102) [.t 5, .t 7]⟩, ⟨some 9, none, .un .not (.t 8)⟩, ⟨some 10, none, .mv (.t 9)⟩, ⟨some 11, (some (10, false)), .faddr 3 (.t 1)⟩, ⟨some 12, (some (10, false)), .load none (.t 11)⟩, ⟨some 13, (some (10, false)), .len (.t 12)⟩, ⟨some 14, (some (10, false)), .pcall (.f 39) [.t 13, .k (.int .i64 1), .k (.int .i64 6)]⟩, ⟨some 15, (some (10, false)), .un .not (.t 14)⟩, ⟨some 16, none, .pick (.t 10) (.k (.bool true)) (.t 15)⟩] [1, 16])
 (.cond (.t 16) (.seq (.reg false [⟨some 2, none, .mv (.k (.bool false))⟩] [2])
  .ret) .skip))
 (.seq (.seq (.reg false [⟨some 17, none, .faddr 3 (.t 1)⟩, ⟨some 18, none, .load none (.t 17)⟩, ⟨some 19, none, .len (.t 18)⟩, ⟨some 20, none, .mv (.k (.int .i64 0))⟩] [1, 18, 19, 20])
 (.block 0 (.loop [(1, .keep), (18, .keep), (19, .keep), (20, .keep)] F104_l0)))
 (.kp [] F104_t0))))
def F104 : AFunc := ⟨1, [.t 2], [], F104_c⟩
/-- spec.l18For -/
def F105_c : AC :=
 (.seq (.reg false [⟨some 2, none, .box (.t 0)⟩, ⟨some 4, none, .mv (.k (.bool false))⟩] [1, 2])
 (.seq (.reg false [⟨some 5, none, .load (some 4) (.t 2)⟩, ⟨some 6, none, .lcall (.f 104) [.t 5]⟩, ⟨some 7, none, .mv (.t 6)⟩, ⟨some 8, (some (7, true)), .mv (.t 1)⟩, ⟨some 9, (some (7, true)), .len (.t 8)⟩, ⟨some 10, (some (7, true)), .faddr 1 (.t 2)⟩, ⟨some 11, (some (7, true)), .load none (.t 10)⟩, ⟨some 12, (some (7, true)), .bin .eql (.t 9) (.t 11)⟩, ⟨some 13, none, .pick (.t 7) (.t 12) (.k (.bool false))⟩, ⟨some 14, none, .mv (.t 13)⟩, ⟨some 15, (some (14, true)), .faddr 0 (.t 2)⟩, ⟨some 16, (some (14, true)), .load none (.t 15)⟩, ⟨some 17, (some (14, true)), .mv (.t 1)⟩, ⟨some 18, (some (14, true)), .lcall (.f 48) [.t 16, .t 17]⟩, ⟨some 19, none, .pick (.t 14) (.t 18) (.k (.bool false))⟩, ⟨some 4, none, .mv (.t 19)⟩] [4])
 .ret))
def F105 : AFunc := ⟨2, [.t 4], [], F105_c⟩
/-- spec.l2From -/
def F49_b0 : AC := (.seq (.seq (.reg false [⟨some 20, none, .mv (.t 5)⟩, ⟨some 21, none, .bin .gtr (.t 20) (.k (.int .i64 0))⟩] [0, 5, 8, 21])
   (.cond (.t 21) .skip (.exit 0)))
   (.seq (.block 1 (.reg false [⟨some 24, none, .mv (.t 0)⟩, ⟨some 25, none, .mv (.t 8)⟩, ⟨some 26, none, .bin .sub (.t 25) (.k (.int .i64 1))⟩, ⟨some 27, none, .lcall (.f 49) [.t 24, .t 26]⟩, ⟨some 8, none, .mv (.t 27)⟩] [0, 5, 8]))
   (.reg false [⟨some 22, none, .mv (.t 5)⟩, ⟨some 23, none, .bin .sub (.t 22) (.k (.int .i64 1))⟩, ⟨some 5, none, .mv (.t 23)⟩] [0, 5, 8])))
def F49_l0 : AC := F49_b0
@[simp] theorem u49_0 (T : Nat → Option AFunc) (X : Orc) (F : AFunc) (m : Nat) (K : List AT) (e : Env) (st : St) : go T X F m (.code F49_l0 :: K) e st = go T X F m (.code F49_b0 :: K) e st := rfl
def F49_t0 : AC :=
 (.seq (.reg false [⟨some 28, none, .mv (.t 8)⟩, ⟨some 4, none, .mv (.t 28)⟩] [4])
 .ret)
def F49_c : AC :=
 (.seq (.reg false [⟨some 4, none, .mv (.k (.int .i64 0))⟩] [0, 1])
 (.seq (.reg false [⟨some 10, none, .mv (.t 0)⟩, ⟨some 11, none, .mv (.t 1)⟩, ⟨some 12, none, .iaddr 2 (.t 10) (.t 11)⟩, ⟨some 13, none, .faddr 0 (.t 12)⟩, ⟨some 14, none, .load none (.t 13)⟩, ⟨some 15, none, .pcall (.f 40) [.t 14]⟩, ⟨some 9, none, .mv (.t 15)⟩, ⟨some 16, none, .ext (.t 9) 0⟩, ⟨some 17, none, .ext (.t 9) 1⟩, ⟨some 18, none, .ext (.t 9) 2⟩, ⟨some 5, none, .mv (.t 16)⟩, ⟨some 6, none, .mv (.t 17)⟩, ⟨some 7, none, .mv (.t 18)⟩] [0, 1, 5])
 (.seq (.reg false [⟨some 19, none, .mv (.t 1)⟩, ⟨some 8, none, .mv (.t 19)⟩] [0, 5, 8])
 (.seq (.block 0 (.loop [(0, .keep), (5, .keep), (8, .keep)] F49_l0))
 (.kp [(8, .keep)] F49_t0)))))
def F49 : AFunc := ⟨2, [.t 4], [], F49_c⟩
end Go.Proofs.YtplgdddfhjpojaaGreat.AM
