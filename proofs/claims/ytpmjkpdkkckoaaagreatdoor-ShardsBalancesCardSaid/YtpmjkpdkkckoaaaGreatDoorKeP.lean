/- The abstract run of code, calls and a whole gate: sound. -/
import Derived.Test.YtpmjkpdkkckoaaaGreatDoorKeO
import Derived.LoopN
namespace Go.Ke
open Go.RowKit (Below)

def AEx.out : AEx → Exit
  | .normal => .normal
  | .exit id => .exit id
  | .ret => .ret

abbrev Coder := Nat → Code → Tr Value → St → Option (AEx × Tr Value × St)

/-- What lies behind a piece of code. -/
def Behind (P : Program) (N n : Nat) (ρ : Loc) (σ : St) (w : World) (T' : Tr Value) (σ' : St) (e : AEx) (Q : Exit → Act → World → Prop) : Prop :=
  ∀ (ρ' : Loc) (a' : Act) (w' : World), Grew ρ ρ' σ σ' → Rel P N ρ' σ' w' → TFull ρ' n T' σ'.dfr a' → Below N w w' → Q e.out a' w'

def CodeOK (P : Program) (N : Nat) (J : World → Prop) (code : Coder) : Prop :=
  ∀ n c T σ e T' σ', code n c T σ = some (e, T', σ') → ∀ (ρ : Loc) (a : Act) (w : World) (Q : Exit → Act → World → Prop), Rel P N ρ σ w → J w → TFull ρ n T σ.dfr a → Behind P N n ρ σ w T' σ' e Q → c.wp P Q a w

def SummOK (P : Program) (N : Nat) (J : World → Prop) (X : Summ) : Prop := ∀ f args σ v σ', X f args σ = some (some (v, σ')) → CallOK P N J f args σ v σ'

/-- Deferred calls that do nothing. -/
def DeferOK (P : Program) (XD : FuncId → List Value → Bool) : Prop := ∀ f args, XD f args = true → (∃ fn c, P.funcs[f]? = some fn ∧ fn.body = some c) ∧ ∀ (ρ : Loc) (args' : List Value) (w : World), LRel ρ args args' →
  CallsD P f args'.toArray .returning w fun e u' w' => (∃ v, e = .returned v) ∧ u' = .returning ∧ w' = w

def Named (P : Program) : Prop := ∀ (f : FuncId) (fn : Func) (c : Code), P.funcs[f]? = some fn → fn.body = some c → (fn.name == "runtime.NumGoroutine") = false

section
variable {P : Program} {N : Nat} {J : World → Prop} {X : Summ} {XD : FuncId → List Value → Bool} {code : Coder}

theorem frame_full {ρ : Loc} {args args' : List Value} (h : LRel ρ args args') (m : Nat) :
    TFull ρ (Nat.max args.length m) (fillTr args 0 .nil) [] { tmps := args'.toArray ++ Array.replicate (m - args'.toArray.size) undef, defers := [] } := by
  have hl := h.length
  refine ⟨?_, .nil, fun t => ?_⟩
  · simp only [Array.size_append, Array.size_replicate, List.size_toArray]
    have : Nat.max args.length m = max args.length m := rfl
    omega
  · unfold TRs tmpOf
    rw [get_fillTr]
    simp only [Array.getD_eq_getD_getElem?, Array.getElem?_append, List.size_toArray, Array.getElem?_replicate, List.getElem?_toArray]
    by_cases ht : t < args.length
    · rw [if_pos ⟨Nat.zero_le _, by omega⟩, if_pos (by omega), Nat.sub_zero]
      obtain ⟨y, h1, h2⟩ := h.get t args[t] (List.getElem?_eq_getElem ht)
      rw [List.getElem?_eq_getElem ht, h1]
      exact h2
    · rw [if_neg (by omega), if_neg (by omega)]
      have h0 : (Tr.nil : Tr Value).get t = none := Tr.get_nil t
      rw [h0]
      split <;> exact undef_rel _

theorem run_enter (hng : Named P) {f : FuncId} {fn : Func} {c : Code} (hf : P.funcs[f]? = some fn) (hb : fn.body = some c) (args : Array Value) (w : World) : (callFunc f args).run P w = .ok (.enter f args) w := by
  have hn := hng f fn c hf hb
  unfold callFunc
  simp only [Sem.run_bind, run_program, Result.andThen_ok, hf]
  rw [if_neg (by rw [hn]; decide), if_neg (by simp [hb])]
  rfl

theorem noneLeft_eq {σ : St} (h : noneLeft σ = true) : σ.dfr = [] := by
  unfold noneLeft at h
  split at h
  · assumption
  · cases h

theorem leaves_eq {e : AEx} (h : e.leaves = true) : e = .normal ∨ e = .ret := by
  cases e with
  | normal => exact .inl rfl
  | ret => exact .inr rfl
  | exit id => cases h

/-- A deferred call that the abstract run has done. -/
theorem deferRun_sound (hc : CodeOK P N J code) (hXD : DeferOK P XD) {f : FuncId} {args : List Value} {σ σ' : St} (h : deferRun P XD code f args σ = some σ')
    {ρ : Loc} {w : World} {args' : List Value} (hr : Rel P N ρ σ w) (hJ : J w) (ha : LRel ρ args args') :
    (∃ fn c, P.funcs[f]? = some fn ∧ fn.body = some c) ∧ CallsD P f args'.toArray .returning w fun e u' w' => (∃ v, e = .returned v) ∧ u' = .returning ∧ ∃ ρ', Grew ρ ρ' σ σ' ∧ Rel P N ρ' σ' w' ∧ Below N w w' := by
  unfold deferRun at h
  split at h
  · rename_i hx
    cases h
    obtain ⟨h1, h2⟩ := hXD f args hx
    refine ⟨h1, (h2 ρ args' w ha).mono ?_⟩
    rintro e u' w' ⟨g1, g2, rfl⟩
    exact ⟨g1, g2, ρ, .refl _ _, hr, Below.refl _ _⟩
  · split at h
    · cases h
    · rename_i fn hf
      split at h
      · cases h
      · rename_i c hb
        split at h
        · rename_i e T σ1 h1
          split at h
          · rename_i hcond
            rw [Bool.and_eq_true] at hcond
            split at h
            · rename_i l hl
              cases h
              refine ⟨⟨fn, c, hf, hb⟩, (callsD_of_wp (R := fun e w' => (∃ v, e = .returned v) ∧ ∃ ρ', Grew ρ ρ' σ σ' ∧ Rel P N ρ' σ' w' ∧ Below N w w') hf hb (hc _ _ _ _ _ _ _ h1 ρ _ w _ (keepD_rel hr) hJ (frame_full ha fn.ntmps) fun ρ' a' w' g1 g2 g3 g4 => ?_)).mono ?_⟩
              · obtain ⟨v', k1, _⟩ := results_sound g2 g3.slots hl
                have hd : a'.defers = [] := by
                  have := g3.defers
                  rw [noneLeft_eq hcond.2] at this
                  unfold DRel at this
                  generalize a'.defers = dd at this
                  cases this
                  rfl
                rcases leaves_eq hcond.1 with rfl | rfl
                · exact ⟨hd, v', k1, ⟨v', rfl⟩, ρ', ⟨g1.le, g1.old, g1.next⟩, g2, g4⟩
                · exact ⟨hd, v', k1, ⟨v', rfl⟩, ρ', ⟨g1.le, g1.old, g1.next⟩, g2, g4⟩
              · rintro e u' w' ⟨rfl, g1, g2⟩
                exact ⟨g1, rfl, g2⟩
            · cases h
          · cases h
        · cases h

theorem defersRun_cons (v : Value) (l : List Value) (σ : St) : defersRun P XD code (v :: l) σ = match v with
    | .func (.func f) first captured => match deferRun P XD code f (first.toList ++ captured.toList) σ with
      | some σ' => defersRun P XD code l σ'
      | none => none
    | _ => none := rfl

/-- How a frame leaves. -/
theorem leaves_sound (hst : Stable N J) (hng : Named P) (hc : CodeOK P N J code) (hXD : DeferOK P XD) {fn : Func} {T : Tr Value} {a : Act} {σ' : St} {l : List Value} (hl : resultsOf P σ' T fn.results.toList = some l) {ρ₀ : Loc} {σ₀ : St} {w₀ : World} :
    ∀ (D : List Value) {ds : List Deferred} {σ : St} {ρ : Loc} {w : World}, defersRun P XD code D σ = some σ' → Rel P N ρ σ w → J w → DRel ρ D ds → (∀ t, TRs ρ T a t) → Grew ρ₀ ρ σ₀ σ → Below N w₀ w →
      Leaves P fn a.tmps (fun e w' => ∃ v' ρ', e = .returned v' ∧ Grew ρ₀ ρ' σ₀ σ' ∧ VRel ρ' (packL l) v' ∧ Rel P N ρ' σ' w' ∧ Below N w₀ w') ds .returning w := by
  intro D
  induction D with
  | nil =>
    intro ds σ ρ w h hr hJ hd hT hle hbl
    cases h
    cases hd
    obtain ⟨v', k1, k2⟩ := results_sound hr hT hl
    exact ⟨v', k1, v', ρ, rfl, hle, k2, hr, hbl⟩
  | cons v D ih =>
    intro ds σ ρ w h hr hJ hd hT hle hbl
    rw [defersRun_cons] at h
    cases hd with
    | cons hv hds =>
      obtain ⟨f, xs, ys, xs', ys', rfl, rfl, hx, hy⟩ := hv
      simp only at h
      split at h
      · rename_i σ1 h1
        obtain ⟨⟨fn1, c1, hf1, hb1⟩, h2⟩ := deferRun_sound hc hXD h1 hr hJ (hx.append hy)
        refine leaves_cons (fun e => by cases e) (args := (xs' ++ ys').toArray) ?_ (h2.mono ?_)
        · show (callFunc f (xs'.toArray ++ ys'.toArray)).run P w = _
          rw [List.append_toArray]
          exact run_enter hng hf1 hb1 _ w
        · rintro e u' w' ⟨⟨v, rfl⟩, rfl, ρ', g1, g2, g3⟩
          exact ih h g2 (hst _ _ g3 hJ) (DRel.mono hds g1.le) (fun t => (hT t).mono g1.le) (hle.trans g1) (hbl.trans g3)
      · cases h

theorem body_calls (hst : Stable N J) (hng : Named P) (hXD : DeferOK P XD) (hc : CodeOK P N J code) {f : FuncId} {fn : Func} {c : Code} (hf : P.funcs[f]? = some fn) (hb : fn.body = some c) {args : List Value} {σ : St} {T : Tr Value} {σ1 σ' : St} {e : AEx} {l : List Value}
    (h : code (Nat.max args.length fn.ntmps) c (fillTr args 0 .nil) (σ.keepD []) = some (e, T, σ1)) (he : e.leaves = true) (hd : defersRun P XD code σ1.dfr σ1 = some σ') (hl : resultsOf P σ' T fn.results.toList = some l)
    {ρ : Loc} {w : World} {args' : List Value} (hr : Rel P N ρ σ w) (hJ : J w) (ha : LRel ρ args args') :
    Calls P f args'.toArray w fun e w' => ∃ v' ρ', e = .returned v' ∧ Grew ρ ρ' σ σ' ∧ VRel ρ' (packL l) v' ∧ Rel P N ρ' σ' w' ∧ Below N w w' := by
  refine calls_of_wp_defers hf hb (hc _ _ _ _ _ _ _ h ρ _ w _ (keepD_rel hr) hJ (frame_full ha fn.ntmps) fun ρ' a' w' g1 g2 g3 g4 => ?_)
  have := leaves_sound (σ₀ := σ) hst hng hc hXD hl σ1.dfr hd g2 (hst _ _ g4 hJ) g3.defers g3.slots ⟨g1.le, g1.old, g1.next⟩ g4
  rcases leaves_eq he with rfl | rfl
  · exact this
  · exact this

/-- A call that the abstract run has done by its body. -/
theorem call_sound (hst : Stable N J) (hng : Named P) (hXD : DeferOK P XD) (hc : CodeOK P N J code) {f : FuncId} {args : List Value} {σ : St} {v : Value} {σ' : St} (h : callRun P X XD code f args σ = some (v, σ')) (hx : X f args σ = none)
    {ρ : Loc} {w : World} {args' : List Value} (hr : Rel P N ρ σ w) (hJ : J w) (ha : LRel ρ args args') :
    (∃ fn c, P.funcs[f]? = some fn ∧ fn.body = some c) ∧ Calls P f args'.toArray w fun e w' => ∃ v' ρ', e = .returned v' ∧ Grew ρ ρ' σ σ' ∧ VRel ρ' v v' ∧ Rel P N ρ' σ' w' ∧ Below N w w' := by
  unfold callRun at h
  rw [hx] at h
  simp only at h
  split at h
  · cases h
  · rename_i fn hf
    split at h
    · cases h
    · rename_i c hb
      split at h
      · rename_i e T σ1 h1
        split at h
        · rename_i he
          split at h
          · rename_i σ2 hd
            split at h
            · rename_i l hl
              cases h
              exact ⟨⟨fn, c, hf, hb⟩, body_calls hst hng hXD hc hf hb h1 he hd hl hr hJ ha⟩
            · cases h
          · cases h
        · cases h
      · cases h

theorem callRun_sound (hst : Stable N J) (hng : Named P) (hXD : DeferOK P XD) (hc : CodeOK P N J code) (hX : SummOK P N J X) : SelfOK P N J (callRun P X XD code) := by
  intro f args σ v σ' h
  cases hx : X f args σ with
  | some r =>
    unfold callRun at h
    rw [hx] at h
    simp only at h
    subst h
    exact hX f args σ v σ' hx
  | none =>
    intro ρ w args' hr hJ ha o a K Q hK
    obtain ⟨⟨fn, c, hf, hb⟩, h1⟩ := call_sound hst hng hXD hc h hx hr hJ ha
    rw [run_enter hng hf hb, Oper.upon_enter]
    refine Calls.mono h1 fun e w' he => ?_
    obtain ⟨v', ρ', rfl, g1, g2, g3, g4⟩ := he
    exact hK v' w' ⟨ρ', g1, g2, g3, g4⟩

section
variable [Quiet] [QuietOK P]

omit [QuietOK P] in
theorem codeRun_zero (n : Nat) (c : Code) (T : Tr Value) (σ : St) : codeRun P X XD 0 n c T σ = none := rfl
omit [QuietOK P] in
theorem codeRun_succ (fuel : Nat) : codeRun P X XD (fuel + 1) = codeStep P X XD (codeRun P X XD fuel) := rfl

omit [Quiet] [QuietOK P] in
theorem Behind.trans {N n : Nat} {ρ ρ₁ : Loc} {σ σ₁ : St} {w w₁ : World} {T' : Tr Value} {σ' : St} {e : AEx} {Q : Exit → Act → World → Prop} (h : Behind P N n ρ σ w T' σ' e Q) (h1 : Grew ρ ρ₁ σ σ₁) (h2 : Below N w w₁) : Behind P N n ρ₁ σ₁ w₁ T' σ' e Q :=
  fun ρ' a' w' g1 g2 g3 g4 => h ρ' a' w' (h1.trans g1) g2 g3 (h2.trans g4)

theorem code_all (hst : Stable N J) (hm : P.follows .mixedOrders = true) (hng : Named P) (hXD : DeferOK P XD) (hX : SummOK P N J X) : ∀ fuel, CodeOK P N J (codeRun P X XD fuel) ∧
    ∀ n b T σ e T' σ', codeRun P X XD fuel n (.loop b) T σ = some (e, T', σ') → ∀ (ρ : Loc) (a : Act) (w : World) (Q : Exit → Act → World → Prop), Rel P N ρ σ w → J w → TFull ρ n T σ.dfr a → Behind P N n ρ σ w T' σ' e Q → Code.rounds P b Q fuel a w := by
  intro fuel
  induction fuel with
  | zero => exact ⟨fun n c T σ e T' σ' h => (by rw [codeRun_zero] at h; cases h), fun n c T σ e T' σ' h => (by rw [codeRun_zero] at h; cases h)⟩
  | succ fuel ih =>
    obtain ⟨ih1, ih2⟩ := ih
    have hself := callRun_sound hst hng hXD ih1 hX
    have hloop : ∀ n b T σ e T' σ', codeRun P X XD (fuel + 1) n (.loop b) T σ = some (e, T', σ') → ∀ (ρ : Loc) (a : Act) (w : World) (Q : Exit → Act → World → Prop), Rel P N ρ σ w → J w → TFull ρ n T σ.dfr a → Behind P N n ρ σ w T' σ' e Q → Code.rounds P b Q (fuel + 1) a w := by
      intro n b T σ e T' σ' h ρ a w Q hr hJ hT hQ
      rw [codeRun_succ] at h
      simp only [codeStep] at h
      rw [rounds_succ]
      split at h
      · rename_i T1 σ1 h1
        refine ih1 _ _ _ _ _ _ _ h1 ρ a w _ hr hJ hT fun ρ' a' w' g1 g2 g3 g4 => ?_
        exact ih2 _ _ _ _ _ _ _ h ρ' a' w' Q g2 (hst _ _ g4 hJ) g3 (hQ.trans g1 g4)
      · rename_i r hr1
        refine ih1 _ _ _ _ _ _ _ h ρ a w _ hr hJ hT fun ρ' a' w' g1 g2 g3 g4 => ?_
        have := hQ ρ' a' w' g1 g2 g3 g4
        cases e with
        | normal => exact absurd h (hr1 _ _)
        | exit id => exact this
        | ret => exact this
    refine ⟨fun n c T σ e T' σ' h ρ a w Q hr hJ hT hQ => ?_, hloop⟩
    cases c with
    | skip =>
      cases h
      exact wp_skip (hQ ρ a w (.refl _ _) hr hT (Below.refl _ _))
    | label l =>
      cases h
      exact wp_label (hQ ρ a w (.refl _ _) hr hT (Below.refl _ _))
    | ret =>
      cases h
      exact wp_ret (hQ ρ a w (.refl _ _) hr hT (Below.refl _ _))
    | exit id =>
      cases h
      exact wp_exit (hQ ρ a w (.refl _ _) hr hT (Below.refl _ _))
    | region id ops draw =>
      rw [codeRun_succ] at h
      simp only [codeStep] at h
      cases draw with
      | false =>
        simp only at h
        split at h
        · rename_i T1 σ1 h1
          cases h
          refine wp_region ?_
          have := seqRun_sound (Q := Q) hst hself ops.toList 0 (fun j => by simp) h1 hr hJ hT hQ
          rw [List.range_eq_range']
          simpa using this
        · cases h
      | true =>
        simp only at h
        split at h
        · cases h
        · rename_i hok
          split at h
          · rename_i T1 σ1 h1
            cases h
            exact draw_sound hm hst hself hok h1 hr hJ hT (fun ρ' a' w' g1 g2 g3 g4 => hQ ρ' a' w' ⟨g1.le, g1.old, g1.next⟩ (keepD_rel g2) g3 g4) id
          · cases h
    | seq x y =>
      rw [codeRun_succ] at h
      simp only [codeStep] at h
      refine wp_seq ?_
      split at h
      · rename_i T1 σ1 h1
        refine ih1 _ _ _ _ _ _ _ h1 ρ a w _ hr hJ hT fun ρ' a' w' g1 g2 g3 g4 => ?_
        exact ih1 _ _ _ _ _ _ _ h ρ' a' w' Q g2 (hst _ _ g4 hJ) g3 (hQ.trans g1 g4)
      · rename_i r hr1
        refine ih1 _ _ _ _ _ _ _ h ρ a w _ hr hJ hT fun ρ' a' w' g1 g2 g3 g4 => ?_
        have := hQ ρ' a' w' g1 g2 g3 g4
        cases e with
        | normal => exact absurd h (hr1 _ _)
        | exit id => exact this
        | ret => exact this
    | cond x y z =>
      rw [codeRun_succ] at h
      simp only [codeStep] at h
      split at h
      · rename_i h1
        have := opd_sound hr h1 (fun t _ => hT.slots t)
        have hb : a.eval x = .bool true := by
          generalize a.eval x = u at this
          cases this
          rfl
        exact wp_cond_true hb (ih1 _ _ _ _ _ _ _ h ρ a w Q hr hJ hT hQ)
      · rename_i h1
        have := opd_sound hr h1 (fun t _ => hT.slots t)
        have hb : a.eval x = .bool false := by
          generalize a.eval x = u at this
          cases this
          rfl
        exact wp_cond_false hb (ih1 _ _ _ _ _ _ _ h ρ a w Q hr hJ hT hQ)
      · cases h
    | block id b =>
      rw [codeRun_succ] at h
      simp only [codeStep] at h
      refine wp_block ?_
      split at h
      · rename_i id' T1 σ1 h1
        split at h
        · rename_i hid
          cases h
          have := Nat.eq_of_beq_eq_true hid
          subst this
          refine ih1 _ _ _ _ _ _ _ h1 ρ a w _ hr hJ hT fun ρ' a' w' g1 g2 g3 g4 => ?_
          have := hQ ρ' a' w' g1 g2 g3 g4
          simpa [Exit.inBlock, AEx.out] using this
        · rename_i hid
          cases h
          have hne : id' ≠ id := fun e => by subst e; rw [Nat.beq_refl] at hid; cases hid
          refine ih1 _ _ _ _ _ _ _ h1 ρ a w _ hr hJ hT fun ρ' a' w' g1 g2 g3 g4 => ?_
          have := hQ ρ' a' w' g1 g2 g3 g4
          simpa [Exit.inBlock, AEx.out, hne] using this
      · rename_i r hr1
        refine ih1 _ _ _ _ _ _ _ h ρ a w _ hr hJ hT fun ρ' a' w' g1 g2 g3 g4 => ?_
        have := hQ ρ' a' w' g1 g2 g3 g4
        cases e with
        | normal => exact this
        | exit id' => exact absurd h (hr1 _ _ _)
        | ret => exact this
    | loop b => exact wp_loop_rounds (fuel + 1) (hloop n b T σ e T' σ' h ρ a w Q hr hJ hT hQ)
    | _ => cases h

theorem code_ok (hst : Stable N J) (hm : P.follows .mixedOrders = true) (hng : Named P) (hXD : DeferOK P XD) (hX : SummOK P N J X) (fuel : Nat) : CodeOK P N J (codeRun P X XD fuel) := (code_all hst hm hng hXD hX fuel).1

end

/-- Nothing is known of the heap. -/
theorem empty_rel (w : World) : Rel P w.heap.size (fun _ => none) St.empty w where
  dom := fun _ _ h => absurd h (by simp)
  above := fun _ _ h => absurd h (by simp [St.empty, Tr.get_nil])
  clsAbove := fun _ _ h => absurd h (by simp [St.empty, Tr.get_nil])
  obj := fun _ _ _ h => absurd h (by simp)
  sep := fun _ _ _ _ _ _ h => absurd h (by simp)
  lone := fun _ _ _ _ h => absurd h (by simp [St.empty, Tr.get_nil])
  glob := fun g h => absurd h (Nat.not_lt_zero g)
  size := Nat.le_refl _

theorem noSumm : SummOK P N J (fun _ _ _ => none) := fun _ _ _ _ _ h => by cases h

theorem noDefer : DeferOK P (fun _ _ => false) := fun _ _ h => by cases h

theorem gate_sound [Quiet] [QuietOK P] (hst : Stable N J) (hm : P.follows .mixedOrders = true) (hng : Named P) (hXD : DeferOK P XD) (hX : SummOK P N J X) {σ : St} {f : FuncId} (hx : X f [] σ = none) (h : gate P X XD σ f = true) {ρ : Loc} {w : World} (hr : Rel P N ρ σ w) (hJ : J w) :
    Calls P f #[] w fun e w' => e = .returned (.bool true) ∧ Below N w w' := by
  unfold gate at h
  split at h
  · rename_i b σ' hb
    subst h
    obtain ⟨_, h1⟩ := call_sound hst hng hXD (code_ok hst hm hng hXD hX _) hb hx hr hJ F2.nil
    refine Calls.mono h1 fun e w' he => ?_
    obtain ⟨v', ρ', rfl, _, g2, _, g4⟩ := he
    cases g2
    exact ⟨rfl, g4⟩
  · cases h

end
end Go.Ke
