/- The abstract run of a region that draws its order. No condition. -/
import Derived.Test.YtpmjkpdkkckoaaaGreatDoorKeLm
namespace Go.Ke
open Go.RowKit (Below)

section
variable [Quiet] {P : Program} {N : Nat} {ρ : Loc} {σ : St} {w : World} {T : Tr Value} {a : Act} {n : Nat} {ops : Array Oper}

/-! ### What the tables say -/

omit [Quiet] in
theorem hasNat_iff {m : Nat} : ∀ {l : List Nat}, hasNat m l = true ↔ m ∈ l := by
  intro l
  induction l with
  | nil => simp [hasNat]
  | cons x l ih =>
    have : hasNat m (x :: l) = @Bool.rec (fun _ => Bool) (hasNat m l) true (Nat.beq x m) := rfl
    rw [this]
    cases hb : Nat.beq x m with
    | true => have := Nat.eq_of_beq_eq_true hb; subst this; simp
    | false =>
      have hne : m ≠ x := fun e => by subst e; rw [Nat.beq_refl] at hb; cases hb
      simp only [ih, List.mem_cons, hne, false_or]

omit [Quiet] in
theorem namesOf_tmp {o : Oper} {s : Nat} (h : Operand.tmp s ∈ o.op.operands) : s ∈ namesOf ops o := by
  have key : ∀ (base : List Nat) (l : List Operand), Operand.tmp s ∈ l → s ∈ @List.rec Operand (fun _ => List Nat) base (fun x _ ih => match x with
      | .tmp t => t :: ih
      | _ => ih) l := by
    intro base l
    induction l with
    | nil => intro h; cases h
    | cons x l ih =>
      intro h
      rcases List.mem_cons.mp h with rfl | h
      · exact List.mem_cons_self
      · have := ih h
        cases x <;> first | exact this | exact List.mem_cons_of_mem _ this
  exact key _ _ (by simpa using h)

omit [Quiet] in
theorem namesOf_guard {o g : Oper} {j d : Nat} {want : Bool} (h : o.guard = some (j, want)) (hj : ops[j]? = some g) (hd : g.dst = some d) : d ∈ namesOf ops o := by
  have key : ∀ (base : List Nat) (l : List Operand), d ∈ base → d ∈ @List.rec Operand (fun _ => List Nat) base (fun x _ ih => match x with
      | .tmp t => t :: ih
      | _ => ih) l := by
    intro base l hb
    induction l with
    | nil => exact hb
    | cons x l ih => cases x <;> first | exact ih | exact List.mem_cons_of_mem _ ih
  refine key _ _ ?_
  rw [h]
  simp only [lget_eq, Array.getElem?_toList, hj, hd]
  exact List.mem_cons_self

omit [Quiet] in
theorem allInfo_spec {p : RInfo → Bool} : ∀ {l : List RInfo}, allInfo p l = true → ∀ x ∈ l, p x = true := by
  intro l
  induction l with
  | nil => intro _ x h; cases h
  | cons y l ih =>
    intro h x hx
    have h' : @Bool.rec (fun _ => Bool) false (allInfo p l) (p y) = true := h
    cases hy : p y with
    | false => rw [hy] at h'; cases h'
    | true =>
      rw [hy] at h'
      rcases List.mem_cons.mp hx with rfl | hx
      · exact hy
      · exact ih h' x hx

omit [Quiet] in
theorem edgesBack_spec {i : Nat} : ∀ {l : List Edge}, edgesBack i l = true → ∀ e ∈ l, Region.binds .any e = true → e.on < i := by
  intro l
  induction l with
  | nil => intro _ x h; cases h
  | cons y l ih =>
    intro h x hx hb
    have h' : (match Region.binds .any y with
      | true => @Bool.rec (fun _ => Bool) false (edgesBack i l) (Nat.blt y.on i)
      | false => edgesBack i l) = true := h
    rcases List.mem_cons.mp hx with rfl | hx
    · rw [hb] at h'
      simp only at h'
      cases hy : Nat.blt x.on i with
      | false => rw [hy] at h'; cases h'
      | true => exact Nat.le_of_ble_eq_true hy
    · refine ih ?_ x hx hb
      split at h'
      · cases hy : Nat.blt y.on i with
        | false => rw [hy] at h'; cases h'
        | true => rw [hy] at h'; exact h'
      · exact h'

omit [Quiet] in
theorem edgesIn_iff {D : Nat} : ∀ {l : List Edge}, edgesIn D l = true ↔ ∀ e ∈ l, Region.binds .any e = true → D.testBit e.on = true := by
  intro l
  induction l with
  | nil => exact ⟨fun _ x h => (by cases h), fun _ => rfl⟩
  | cons y l ih =>
    have h' : edgesIn D (y :: l) = (match Region.binds .any y with
      | true => @Bool.rec (fun _ => Bool) false (edgesIn D l) (D.testBit y.on)
      | false => edgesIn D l) := rfl
    rw [h']
    simp only [List.forall_mem_cons]
    cases hb : Region.binds .any y with
    | false => simp only [Bool.false_eq_true, false_implies, true_and]; exact ih
    | true =>
      simp only [true_implies]
      cases ht : D.testBit y.on with
      | false => simp
      | true => simp only [true_and]; exact ih

omit [Quiet] in
theorem allDone_spec {D : Nat} : ∀ {l : List RInfo}, allDone D l = true → ∀ x ∈ l, D.testBit x.i = true := by
  intro l
  induction l with
  | nil => intro _ x h; cases h
  | cons y l ih =>
    intro h x hx
    have h' : @Bool.rec (fun _ => Bool) false (allDone D l) (D.testBit y.i) = true := h
    cases hy : D.testBit y.i with
    | false => rw [hy] at h'; cases h'
    | true =>
      rw [hy] at h'
      rcases List.mem_cons.mp hx with rfl | hx
      · exact hy
      · exact ih h' x hx

/-- The set of one operation's predecessors. -/
noncomputable def edgeSet (acc : List Nat) (l : List Edge) : Nat := @List.rec Edge (fun _ => Nat) 0 (fun e _ s => match Region.binds .any e with
      | true => Nat.lor s (Nat.lor (2 ^ e.on) (match lget acc e.on with
        | some m => m
        | none => 0))
      | false => s) l

omit [Quiet] in
theorem edgeSet_spec {acc : List Nat} : ∀ {l : List Edge} {j : Nat}, (edgeSet acc l).testBit j = true → ∃ e ∈ l, Region.binds .any e = true ∧ (e.on = j ∨ ∃ m, acc[e.on]? = some m ∧ m.testBit j = true) := by
  intro l
  induction l with
  | nil => intro j h; exact absurd h (by simp [edgeSet])
  | cons y l ih =>
    intro j h
    have h' : (match Region.binds .any y with
      | true => Nat.lor (edgeSet acc l) (Nat.lor (2 ^ y.on) (match lget acc y.on with
        | some m => m
        | none => 0))
      | false => edgeSet acc l).testBit j = true := h
    cases hb : Region.binds .any y with
    | false =>
      rw [hb] at h'
      obtain ⟨e, h1, h2⟩ := ih h'
      exact ⟨e, List.mem_cons_of_mem _ h1, h2⟩
    | true =>
      rw [hb] at h'
      simp only at h'
      have h2 : ((edgeSet acc l) ||| ((2 ^ y.on) ||| (match lget acc y.on with
        | some m => m
        | none => 0))).testBit j = true := h'
      rw [Nat.testBit_or, Nat.testBit_or, Bool.or_eq_true, Bool.or_eq_true] at h2
      rcases h2 with h2 | h2 | h2
      · obtain ⟨e, h1, h2⟩ := ih h2
        exact ⟨e, List.mem_cons_of_mem _ h1, h2⟩
      · rw [Nat.testBit_two_pow] at h2
        exact ⟨y, List.mem_cons_self, hb, .inl (of_decide_eq_true h2)⟩
      · rw [lget_eq] at h2
        split at h2
        · rename_i m hm
          exact ⟨y, List.mem_cons_self, hb, .inr ⟨m, hm, h2⟩⟩
        · simp at h2

omit [Quiet] in
theorem aheadOf_spec : ∀ (l : List Oper) (acc : List Nat), ∃ r, aheadOf l acc = acc ++ r ∧ r.length = l.length ∧
    ∀ k o, l[k]? = some o → ∃ m, (acc ++ r)[acc.length + k]? = some m ∧ ∀ j, m.testBit j = true → ∃ e ∈ o.after, Region.binds .any e = true ∧ (e.on = j ∨ ∃ m', (acc ++ r)[e.on]? = some m' ∧ m'.testBit j = true) := by
  intro l
  induction l with
  | nil => intro acc; exact ⟨[], (List.append_nil _).symm, rfl, fun k o h => by simp at h⟩
  | cons o l ih =>
    intro acc
    obtain ⟨r, h1, h2, h3⟩ := ih (acc ++ [edgeSet acc o.after.toList])
    refine ⟨edgeSet acc o.after.toList :: r, ?_, by simp [h2], ?_⟩
    · have : aheadOf (o :: l) acc = aheadOf l (acc ++ [edgeSet acc o.after.toList]) := rfl
      rw [this, h1]; simp
    · intro k o' hk
      cases k with
      | zero =>
        cases hk
        refine ⟨edgeSet acc o.after.toList, by simp, fun j hj => ?_⟩
        obtain ⟨e, g1, g2, g3⟩ := edgeSet_spec hj
        refine ⟨e, by simpa using g1, g2, g3.imp id fun ⟨m, k1, k2⟩ => ⟨m, ?_, k2⟩⟩
        rw [List.getElem?_append_left (List.getElem?_eq_some_iff.mp k1).1]
        exact k1
      | succ k =>
        obtain ⟨m, g1, g2⟩ := h3 k o' (by simpa using hk)
        have e : acc ++ [edgeSet acc o.after.toList] ++ r = acc ++ edgeSet acc o.after.toList :: r := by simp
        rw [e] at g1 g2
        refine ⟨m, ?_, g2⟩
        rw [← g1]
        congr 1
        simp
        omega

noncomputable def mkInfo (ops : Array Oper) (ah : List Nat) (k : Nat) (o : Oper) : RInfo where
  i := k
  o := o
  names := namesOf ops o
  ahead := match lget ah k with
    | some m => m
    | none => 0
  heavy := isHeavy ops k o

theorem infos_get (ah : List Nat) : ∀ (l : List Oper) (i k : Nat), (infos ops ah l i)[k]? = (l[k]?).map fun o => mkInfo ops ah (i + k) o := by
  intro l
  induction l with
  | nil => intro i k; rfl
  | cons o l ih =>
    intro i k
    cases k with
    | zero => rfl
    | succ k =>
      have : (infos ops ah (o :: l) i)[k + 1]? = (infos ops ah l (i + 1))[k]? := rfl
      rw [this, ih]
      simp only [List.getElem?_cons_succ, Nat.add_assoc, Nat.add_comm 1 k]

/-- The tables of a region stand by its operations. -/
structure LOk (ops : Array Oper) (L : List RInfo) : Prop where
  get : ∀ (i : Nat) (o : Oper), ops[i]? = some o → ∃ x : RInfo, L[i]? = some x ∧ x.i = i ∧ x.o = o
  mem : ∀ (k : Nat) (x : RInfo), L[k]? = some x → x.i = k ∧ ops[k]? = some x.o ∧ x.names = namesOf ops x.o
  ahead : ∀ x ∈ L, ∀ j, x.ahead.testBit j = true → ∃ e ∈ x.o.after, Region.binds .any e = true ∧ (e.on = j ∨ ∃ y ∈ L, y.i = e.on ∧ y.ahead.testBit j = true)

theorem infosOf_ok (ops : Array Oper) : LOk ops (infosOf ops) := by
  obtain ⟨r, h1, h2, h3⟩ := aheadOf_spec ops.toList []
  rw [List.nil_append] at h1
  simp only [List.nil_append, List.length_nil, Nat.zero_add] at h3
  have hg : ∀ k, (infosOf ops)[k]? = (ops[k]?).map fun o => mkInfo ops r k o := fun k => by
    unfold infosOf
    rw [infos_get, h1]
    simp only [Nat.zero_add, Array.getElem?_toList]
  refine ⟨fun i o h => ?_, fun k x h => ?_, fun x hx j hj => ?_⟩
  · rw [hg, h]
    exact ⟨_, rfl, rfl, rfl⟩
  · rw [hg] at h
    cases ho : ops[k]? with
    | none => rw [ho] at h; cases h
    | some o => rw [ho] at h; cases h; exact ⟨rfl, rfl, rfl⟩
  · obtain ⟨k, hk⟩ := List.mem_iff_getElem?.mp hx
    have hk' := hk
    rw [hg] at hk
    cases ho : ops[k]? with
    | none => rw [ho] at hk; cases hk
    | some o =>
      rw [ho] at hk
      cases hk
      obtain ⟨m, g1, g2⟩ := h3 k o (by simpa using ho)
      simp only [mkInfo, lget_eq, g1] at hj
      obtain ⟨e, k1, k2, k3⟩ := g2 j hj
      refine ⟨e, k1, k2, k3.imp id fun ⟨m', n1, n2⟩ => ?_⟩
      have hlt : e.on < ops.toList.length := h2 ▸ (List.getElem?_eq_some_iff.mp n1).1
      have hlt' : e.on < ops.size := by simpa using hlt
      have hge := hg e.on
      rw [Array.getElem?_eq_getElem hlt', Option.map_some] at hge
      refine ⟨_, List.mem_of_getElem? hge, rfl, ?_⟩
      simp only [mkInfo, lget_eq, n1]
      exact n2

/-- What is asked of the tables. -/
structure ROk (L : List RInfo) : Prop where
  back : ∀ x ∈ L, ∀ e ∈ x.o.after, Region.binds .any e = true → e.on < x.i
  read : ∀ x ∈ L, ∀ y ∈ L, y.heavy = false → ∀ d, y.o.dst = some d → d ∈ x.names → x.ahead.testBit y.i = true

omit [Quiet] in
theorem regionOk_spec {L : List RInfo} (h : regionOk L = true) : ROk L := by
  have h1 := allInfo_spec h
  refine ⟨fun x hx e he hb => ?_, fun x hx y hy hh d hd hn => ?_⟩
  · have := h1 x hx
    simp only [Bool.and_eq_true] at this
    exact edgesBack_spec this.1 e (by simpa using he) hb
  · have := h1 x hx
    simp only [Bool.and_eq_true] at this
    have := allInfo_spec this.2 y hy
    rw [hh, hd] at this
    simp only [hasNat_iff.mpr hn] at this
    exact this

end
end Go.Ke
