/- The abstract run against the model's: frames, a region in the order of the text, results, calls. No condition. -/
import Derived.Test.YtmnlcldhhlkpeaaGreatDoorKeL
namespace Go.Ke
open Go.RowKit (Below)

/-- A deferred call. -/
def DfrRel (ρ : Loc) (v : Value) (d : Deferred) : Prop :=
  ∃ (f : FuncId) (xs ys xs' ys' : List Value), v = .func (.func f) xs.toArray ys.toArray ∧ d = { target := .fn (.func f) ys'.toArray, args := xs'.toArray } ∧ LRel ρ xs xs' ∧ LRel ρ ys ys'

theorem DfrRel.mono {ρ ρ' : Loc} (hle : ρ.le ρ') {v : Value} {d : Deferred} (h : DfrRel ρ v d) : DfrRel ρ' v d := by
  obtain ⟨f, xs, ys, xs', ys', h1, h2, h3, h4⟩ := h
  exact ⟨f, xs, ys, xs', ys', h1, h2, h3.mono hle, h4.mono hle⟩

/-- The deferred calls of a frame, the latest first. -/
def DRel (ρ : Loc) (l : List Value) (d : List Deferred) : Prop := F2 (DfrRel ρ) l d

theorem DRel.mono {ρ ρ' : Loc} {l : List Value} {d : List Deferred} (h : DRel ρ l d) (hle : ρ.le ρ') : DRel ρ' l d := by
  unfold DRel at *
  induction h with
  | nil => exact .nil
  | cons hxy _ ih => exact .cons (hxy.mono hle) ih

/-- The abstract frame and the true one. -/
structure TFull (ρ : Loc) (n : Nat) (T : Tr Value) (D : List Value) (a : Act) : Prop where
  size : a.tmps.size = n
  defers : DRel ρ D a.defers
  slots : ∀ t, TRs ρ T a t

/-- A call, as an operation of the caller's meets it. -/
def CallSem (P : Program) (f : FuncId) (args : Array Value) (w : World) (R : Value → World → Prop) : Prop :=
  ∀ (o : Oper) (a : Act) (K : Act → World → Prop) (Q : Exit → Act → World → Prop), (∀ v w', R v w' → K (a.put o.dst v) w') → o.upon P a K Q ((callFunc f args).run P w)

/-- What holds of a world by its old blocks alone. -/
def Stable (N : Nat) (J : World → Prop) : Prop := ∀ w w', Below N w w' → J w → J w'

def CallOK (P : Program) (N : Nat) (J : World → Prop) (f : FuncId) (args : List Value) (σ : St) (v : Value) (σ' : St) : Prop :=
  ∀ (ρ : Loc) (w : World) (args' : List Value), Rel P N ρ σ w → J w → LRel ρ args args' →
    CallSem P f args'.toArray w fun v' w' => ∃ ρ' : Loc, ρ.le ρ' ∧ VRel ρ' v v' ∧ Rel P N ρ' σ' w' ∧ Below N w w'

def SelfOK (P : Program) (N : Nat) (J : World → Prop) (self : FuncId → List Value → St → Option (Value × St)) : Prop :=
  ∀ f args σ v σ', self f args σ = some (v, σ') → CallOK P N J f args σ v σ'

section
variable {P : Program} {N : Nat} {J : World → Prop} {ρ : Loc} {σ : St} {w : World} {T : Tr Value} {a : Act} {n : Nat}

theorem putT_spec {dst : Option Nat} {v : Value} {T' : Tr Value} (h : putT n T dst v = some T') : (dst = none ∧ T' = T) ∨ ∃ d, dst = some d ∧ d < n ∧ T' = T.set v d := by
  unfold putT at h
  split at h
  · cases h; exact .inl ⟨rfl, rfl⟩
  · rename_i d
    split at h
    · rename_i hd
      cases h
      exact .inr ⟨d, rfl, Nat.le_of_ble_eq_true hd, rfl⟩
    · cases h

theorem put_size (a : Act) (dst : Option Tmp) (v : Value) : (a.put dst v).tmps.size = a.tmps.size := by cases dst <;> simp [Act.put]
theorem put_defers (a : Act) (dst : Option Tmp) (v : Value) : (a.put dst v).defers = a.defers := by cases dst <;> rfl

theorem put_slot (hn : a.tmps.size = n) {dst : Option Nat} {v v' : Value} {T' : Tr Value} (h : putT n T dst v = some T') (hv : VRel ρ v v') {t : Nat} (ht : dst = some t ∨ TRs ρ T a t) : TRs ρ T' (a.put dst v') t := by
  rcases putT_spec h with ⟨rfl, rfl⟩ | ⟨d, rfl, hd, rfl⟩
  · rcases ht with ht | ht
    · cases ht
    · exact ht
  · unfold TRs
    rw [tmpOf_set]
    by_cases e : t = d
    · subst e
      rw [if_pos rfl]
      have : (a.put (some t) v').tmps.getD t undef = v' := by
        simp [Act.put, hn, hd]
      rw [this]
      exact hv
    · rw [if_neg e]
      have : (a.put (some d) v').tmps.getD t undef = a.tmps.getD t undef := by
        simp [Act.put, Ne.symm e]
      rw [this]
      rcases ht with ht | ht
      · cases ht; exact absurd rfl e
      · exact ht

theorem guardOk_sound {ops : Array Oper} {o : Oper} (hg : ∀ j want g d, o.guard = some (j, want) → ops[j]? = some g → g.dst = some d → TRs ρ T a d) : Region.wanted o (yielded ops a.tmps) = guardOk ops T o.guard := by
  unfold Region.wanted guardOk
  cases hgd : o.guard with
  | none => rfl
  | some jw =>
    obtain ⟨j, want⟩ := jw
    simp only
    rw [lget_eq, Array.getElem?_toList]
    unfold yielded
    cases ho : ops[j]? with
    | none => rfl
    | some g =>
      simp only [Option.bind_some]
      cases hd : g.dst with
      | none => rfl
      | some d =>
        simp only [Option.bind_some]
        have hrel := hg j want g d hgd ho hd
        unfold TRs at hrel
        generalize hx : tmpOf T d = x at hrel
        generalize hy : a.tmps.getD d undef = y at hrel
        have hcase : ∀ b, y = .bool b → a.tmps[d]? = some (.bool b) := fun b hb => by
          rw [hb, Array.getD_eq_getD_getElem?] at hy
          cases hc : a.tmps[d]? with
          | none => rw [hc] at hy; cases hy
          | some u => rw [hc] at hy; simp at hy; rw [hy]
        cases hrel with
        | bool b =>
          have h1 := hcase b rfl
          rw [h1]
          cases b <;> cases want <;> rfl
        | _ =>
          have hb : ∀ b : Bool, a.tmps[d]? ≠ some (.bool b) := fun b hc => by
            rw [Array.getD_eq_getD_getElem?, hc] at hy
            cases hy
          generalize a.tmps[d]? = u at hb
          cases u with
          | none => rfl
          | some u => cases u <;> first | rfl | exact absurd rfl (hb _)

/-- Any operation: what lies behind it. -/
theorem opRun_sound {self : FuncId → List Value → St → Option (Value × St)} (hself : SelfOK P N J self) {ops : Array Oper} {o : Oper} {T' : Tr Value} {σ' : St} (h : opRun P self n ops o T σ = some (T', σ'))
    (hr : Rel P N ρ σ w) (hJ : J w) (hx : ∀ z ∈ o.op.operands, ∀ s, z = .tmp s → TRs ρ T a s) (hg : ∀ j want g d, o.guard = some (j, want) → ops[j]? = some g → g.dst = some d → TRs ρ T a d)
    {i : Nat} (hi : ops[i]? = some o) {K : Act → World → Prop} {Q : Exit → Act → World → Prop}
    (hK : ∀ (ρ' : Loc) (v v' : Value) (w' : World), ρ.le ρ' → Rel P N ρ' σ' w' → Below N w w' → putT n T o.dst v = some T' → VRel ρ' v v' → K (a.put o.dst v') w') : wpOp P ops Q i K a w := by
  unfold wpOp
  simp only [hi]
  rw [guardOk_sound hg]
  unfold opRun at h
  split at h
  · rename_i hgd
    rw [hgd]
    simp only [Bool.false_eq_true, if_false]
    split at h
    · rename_i T1 hT
      cases h
      exact hK ρ undef undef w (Loc.le_refl _) hr (Below.refl _ _) hT (undef_rel _)
    · cases h
  · rename_i hgd
    rw [hgd]
    simp only [if_true]
    refine .inl ?_
    unfold Oper.wp
    split at h
    · rename_i v hv
      obtain ⟨v', h1, h2⟩ := op_sound hr hv hx
      rw [h1]
      split at h
      · rename_i T1 hT
        cases h
        exact hK ρ v v' w (Loc.le_refl _) hr (Below.refl _ _) hT h2
      · cases h
    · rename_i b mk hv
      obtain ⟨ob, v', w', h1, h2, h3, h4, h5, h6, h7⟩ := op_sound hr hv hx
      rw [h1]
      split at h
      · rename_i T1 hT
        cases h
        exact hK _ (mk.val σ.next) v' w' (Loc.le_ext hr.fresh_none) (new_sound hr h6 h2) (push_below hr.size h2 h3 h4 h5) hT h7
      · cases h
    · rename_i v σ1 hv
      obtain ⟨nx, v', w', ρ', h1, h2, h3, h4, h5, h6⟩ := op_sound hr hv hx
      rw [h1]
      split at h
      · rename_i T1 hT
        cases h
        have := hK ρ' v v' w' h3 h5 h6 hT h4
        rcases h2 with rfl | ⟨rfl, rfl⟩
        · exact this
        · exact this
      · cases h
    · rename_i f args hv
      obtain ⟨args', h1, h2⟩ := op_sound hr hv hx
      rw [h1]
      split at h
      · rename_i v σ1 hs
        split at h
        · rename_i T1 hT
          cases h
          refine hself f args σ v _ hs ρ w args' hr hJ h2 o a K Q fun v' w' hR => ?_
          obtain ⟨ρ', g1, g2, g3, g4⟩ := hR
          exact hK ρ' v v' w' g1 g3 g4 hT g2
        · cases h
      · cases h
    · cases h

theorem put_full {D : List Value} (hT : TFull ρ n T D a) {ρ' : Loc} (hle : ρ.le ρ') {dst : Option Nat} {v v' : Value} {T' : Tr Value} (h : putT n T dst v = some T') (hv : VRel ρ' v v') : TFull ρ' n T' D (a.put dst v') :=
  ⟨by rw [put_size]; exact hT.size, by rw [put_defers]; exact hT.defers.mono hle, fun t => put_slot hT.size h hv (.inr ((hT.slots t).mono hle))⟩

theorem keepD_rel {d : List Value} (h : Rel P N ρ σ w) : Rel P N ρ (σ.keepD d) w := by
  refine ⟨h.dom, h.above, h.clsAbove, fun k p ob h1 h2 => ?_, h.sep, h.lone, h.glob, h.size⟩
  have := h.obj k p ob h1 h2
  cases ob with
  | row cells len elem cls pos =>
    obtain ⟨g1, c, fz, g2⟩ := this
    exact ⟨g1, c, fz, ⟨g2.at', g2.size, g2.within, g2.holds, g2.free, g2.ends, g2.base⟩⟩
  | map es clock => exact this
  | mapIter m since seen stepped => exact this
  | strIter s pos => exact this

theorem deferred_sound (hr : Rel P N ρ σ w) (hT : ∀ t, TRs ρ T a t) {c : Call} {v : Value} (h : deferred σ T c = some v) (t : TypeId) :
    ∃ d, resolve a.eval c t = pure d ∧ DfrRel ρ v d := by
  unfold deferred at h
  split at h
  · rename_i f hf
    split at h
    · rename_i g first captured args hop hargs
      cases h
      have hargs' := opds_sound (a := a) hr hargs (fun _ _ t _ => hT t)
      have hfv := opd_sound (a := a) hr hop (fun t _ => hT t)
      generalize hfe : a.eval f = fv at hfv
      cases hfv with
      | fn _ _ _ first' captured' h1 h2 c1 c2 =>
        refine ⟨{ target := .fn (.func g) captured', args := first' ++ c.args.map a.eval }, ?_, ⟨g, first.toList ++ args, captured.toList, first'.toList ++ c.args.toList.map a.eval, captured'.toList, by simp, ?_, (LRel.of_array h1 c1).append hargs', LRel.of_array h2 c2⟩⟩
        · unfold resolve
          rw [hf]
          simp only [hfe]
          rfl
        · congr 1
          apply Array.toList_inj.1
          simp
    · cases h
  · cases h

theorem seqRun_cons (self : FuncId → List Value → St → Option (Value × St)) (ops : Array Oper) (o : Oper) (l : List Oper) (T : Tr Value) (σ : St) : seqRun P self n ops (o :: l) T σ = match isDefer o.op with
    | none => match opRun P self n ops o T σ with
      | some (T', σ') => seqRun P self n ops l T' (σ'.keepD σ.dfr)
      | none => none
    | some c => match o.guard, deferred σ T c with
      | none, some v => match putT n T o.dst undef with
        | some T' => seqRun P self n ops l T' (σ.keepD (v :: σ.dfr))
        | none => none
      | _, _ => none := rfl

theorem isDefer_eq {o : Op} {c : Call} (h : isDefer o = some c) : o = .defer c := by
  unfold isDefer at h
  split at h
  · cases h; rfl
  · cases h

theorem seqRun_sound {self : FuncId → List Value → St → Option (Value × St)} (hst : Stable N J) (hself : SelfOK P N J self) {ops : Array Oper} {Q : Exit → Act → World → Prop} : ∀ (l : List Oper) (i : Nat), (∀ j, l[j]? = ops[i + j]?) → ∀ {T T' : Tr Value} {σ σ' : St} {ρ : Loc} {a : Act} {w : World},
    seqRun P self n ops l T σ = some (T', σ') → Rel P N ρ σ w → J w → TFull ρ n T σ.dfr a →
    (∀ (ρ' : Loc) (a' : Act) (w' : World), ρ.le ρ' → Rel P N ρ' σ' w' → TFull ρ' n T' σ'.dfr a' → Below N w w' → Q .normal a' w') → wpOps P ops Q (List.range' i l.length) a w := by
  intro l
  induction l with
  | nil =>
    intro i _ T T' σ σ' ρ a w h hr hJ hT hQ
    cases h
    exact hQ ρ a w (Loc.le_refl _) hr hT (Below.refl _ _)
  | cons o l ih =>
    intro i hi T T' σ σ' ρ a w h hr hJ hT hQ
    have hio : ops[i]? = some o := by simpa using (hi 0).symm
    have hin : ∀ j, l[j]? = ops[i + 1 + j]? := fun j => by have := hi (j + 1); simpa [Nat.add_assoc, Nat.add_comm 1 j] using this
    rw [seqRun_cons] at h
    rw [List.length_cons, List.range'_succ, wpOps_cons]
    split at h
    · split at h
      · rename_i T1 σ1 h1
        refine opRun_sound hself h1 hr hJ (fun z _ s _ => hT.slots s) (fun _ _ _ d _ _ _ => hT.slots d) hio fun ρ' v v' w' g1 g2 g3 g4 g5 => ?_
        exact ih (i + 1) hin h (keepD_rel g2) (hst _ _ g3 hJ) (put_full hT g1 g4 g5) fun ρ'' a'' w'' k1 k2 k3 k4 => hQ ρ'' a'' w'' (Loc.le_trans g1 k1) k2 k3 (g3.trans k4)
      · cases h
    · rename_i c hc
      split at h
      · rename_i v hgd hd
        split at h
        · rename_i T1 hT1
          obtain ⟨d, hd1, hd2⟩ := deferred_sound hr hT.slots hd o.type
          have hop := isDefer_eq hc
          have hex : execOp a.eval o = pure (.defer d) := by
            have h1 : execOp a.eval o = (do pure (.defer (← resolve a.eval c o.type))) := by unfold execOp; rw [hop]
            rw [h1, hd1]
            rfl
          unfold wpOp
          simp only [hio]
          rw [guardOk_sound (T := T) (ρ := ρ) (fun _ _ _ d _ _ _ => hT.slots d)]
          have hok : guardOk ops T o.guard = true := by rw [hgd]; rfl
          rw [hok]
          simp only [if_true]
          refine .inl ?_
          unfold Oper.wp
          rw [hex]
          have hT2 : TFull ρ n T (v :: σ.dfr) { a with defers := d :: a.defers } := ⟨hT.size, .cons hd2 hT.defers, hT.slots⟩
          exact ih (i + 1) hin h (keepD_rel hr) hJ (put_full hT2 (Loc.le_refl _) hT1 (undef_rel _)) hQ
        · cases h
      · cases h

/-! ### Results -/

theorem resultsOf_sound (hr : Rel P N ρ σ w) (hT : ∀ t, TRs ρ T a t) : ∀ {l : List ResultVar} {vs : List Value}, resultsOf P σ T l = some vs →
    ∃ vs', (l.mapM (fun (r : ResultVar) => match r with
      | .tmp t => pure (a.tmps.getD t undef)
      | .cell q t => do loadVar t (← asAddr (a.tmps.getD q undef)) : ResultVar → Sem Value)).run P w = .ok vs' w ∧ LRel ρ vs vs' := by
  intro l
  induction l with
  | nil => intro vs h; cases h; exact ⟨[], rfl, .nil⟩
  | cons x l ih =>
    intro vs h
    change (match resultOf P σ T x with
      | none => none
      | some v => match resultsOf P σ T l with
        | none => none
        | some r => some (v :: r)) = some vs at h
    split at h
    · cases h
    · rename_i v hv
      split at h
      · cases h
      · rename_i r hl
        cases h
        obtain ⟨vs', h1, h2⟩ := ih hl
        rw [List.mapM_cons]
        cases x with
        | tmp t =>
          cases hv
          refine ⟨a.tmps.getD t undef :: vs', ?_, .cons (hT t) h2⟩
          simp only [Sem.run_bind, Sem.run_pure, Result.andThen_ok, h1]
        | cell q t =>
          simp only [resultOf] at hv
          split at hv
          · rename_i u hu
            cases hv
            obtain ⟨y, hy⟩ : ∃ y, a.tmps.getD q undef = y := ⟨_, rfl⟩
            have hq : VRel ρ (tmpOf T q) y := hy ▸ hT q
            obtain ⟨u', _, g2, g3, g, rfl⟩ := eLoad_sound hr hu hq
            refine ⟨u' :: vs', ?_, .cons g2 h2⟩
            have g3' : (loadVar t g).run P w = .ok u' w := g3
            have hrest := h1
            have ha : asAddr (a.tmps.getD q undef) = pure g := by rw [hy]; rfl
            simp only [Sem.run_bind, Sem.run_pure, Result.andThen_ok, ha, g3']
            rw [hrest]
            rfl
          · cases hv

theorem packL_rel {l l' : List Value} (h : LRel ρ l l') : VRel ρ (packL l) (if hs : l'.toArray.size = 1 then l'.toArray[0] else .tuple l'.toArray) := by
  cases h with
  | nil => exact .tuple #[] #[] rfl fun i h => absurd h (by simp)
  | cons h1 t1 =>
    cases t1 with
    | nil => exact h1
    | cons h2 t2 =>
      have hl : LRel ρ _ _ := F2.cons h1 (F2.cons h2 t2)
      obtain ⟨g1, g2⟩ := hl.to_array
      rw [dif_neg (by simp)]
      exact .tuple _ _ g1 g2

theorem results_sound (hr : Rel P N ρ σ w) (hT : ∀ t, TRs ρ T a t) {fn : Func} {vs : List Value} (h : resultsOf P σ T fn.results.toList = some vs) :
    ∃ v', (results fn a.tmps).run P w = .ok v' w ∧ VRel ρ (packL vs) v' := by
  obtain ⟨vs', h1, h2⟩ := resultsOf_sound (a := a) hr hT h
  refine ⟨_, ?_, packL_rel h2⟩
  have hm : (fn.results.mapM (fun (r : ResultVar) => match r with
      | .tmp t => pure (a.tmps.getD t undef)
      | .cell q t => do loadVar t (← asAddr (a.tmps.getD q undef)) : ResultVar → Sem Value)).run P w = .ok vs'.toArray w := by
    rw [Array.mapM_eq_mapM_toList, map_eq_pure_bind, Sem.run_bind]
    exact (congrArg (fun r => Result.andThen r _) h1).trans rfl
  unfold results
  rw [Sem.run_bind]
  exact (congrArg (fun r => Result.andThen r _) hm).trans rfl

end
end Go.Ke
