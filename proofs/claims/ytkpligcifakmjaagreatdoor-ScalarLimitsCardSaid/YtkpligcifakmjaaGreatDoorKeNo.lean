/- The abstract run is right: regions that draw their order. No condition. -/
import Derived.Test.YtkpligcifakmjaaGreatDoorKeLm
namespace Go.Ke
open Go.RowKit (Below)

section
variable {P : Program} {N : Nat} {ρ : Loc} {σ : St} {w : World} {T : Tr Value} {a : Act} {n : Nat} {ops : Array Oper}

/-! ### What the tables say -/

theorem hasNat_iff {m : Nat} : ∀ {l : List Nat}, hasNat m l = true ↔ m ∈ l := by
  intro l
  induction l with
  | nil => simp [hasNat]
  | cons x l ih =>
    have : hasNat m (x :: l) = @Bool.rec (fun _ => Bool) (hasNat m l) true (Nat.beq x m) := rfl
    rw [this]
    cases hb : Nat.beq x m with
    | true => have := Nat.eq_of_beq_eq_true hb; subst this; simp
    | false =>
      have hne : m ≠ x := fun e => by subst e; rw [Nat.beq_refl] at hb; cases hb
      simp only [ih, List.mem_cons, hne, false_or]

theorem namesOf_tmp {o : Oper} {s : Nat} (h : Operand.tmp s ∈ o.op.operands) : s ∈ namesOf ops o := by
  have key : ∀ (base : List Nat) (l : List Operand), Operand.tmp s ∈ l → s ∈ @List.rec Operand (fun _ => List Nat) base (fun x _ ih => match x with
      | .tmp t => t :: ih
      | _ => ih) l := by
    intro base l
    induction l with
    | nil => intro h; cases h
    | cons x l ih =>
      intro h
      rcases List.mem_cons.mp h with rfl | h
      · exact List.mem_cons_self
      · have := ih h
        cases x <;> first | exact this | exact List.mem_cons_of_mem _ this
  exact key _ _ (by simpa using h)

theorem namesOf_guard {o g : Oper} {j d : Nat} {want : Bool} (h : o.guard = some (j, want)) (hj : ops[j]? = some g) (hd : g.dst = some d) : d ∈ namesOf ops o := by
  have key : ∀ (base : List Nat) (l : List Operand), d ∈ base → d ∈ @List.rec Operand (fun _ => List Nat) base (fun x _ ih => match x with
      | .tmp t => t :: ih
      | _ => ih) l := by
    intro base l hb
    induction l with
    | nil => exact hb
    | cons x l ih => cases x <;> first | exact ih | exact List.mem_cons_of_mem _ ih
  refine key _ _ ?_
  rw [h]
  simp only [lget_eq, Array.getElem?_toList, hj, hd]
  exact List.mem_cons_self

theorem allInfo_spec {p : RInfo → Bool} : ∀ {l : List RInfo}, allInfo p l = true → ∀ x ∈ l, p x = true := by
  intro l
  induction l with
  | nil => intro _ x h; cases h
  | cons y l ih =>
    intro h x hx
    have h' : @Bool.rec (fun _ => Bool) false (allInfo p l) (p y) = true := h
    cases hy : p y with
    | false => rw [hy] at h'; cases h'
    | true =>
      rw [hy] at h'
      rcases List.mem_cons.mp hx with rfl | hx
      · exact hy
      · exact ih h' x hx

theorem edgesBack_spec {i : Nat} : ∀ {l : List Edge}, edgesBack i l = true → ∀ e ∈ l, Region.binds .any e = true → e.on < i := by
  intro l
  induction l with
  | nil => intro _ x h; cases h
  | cons y l ih =>
    intro h x hx hb
    have h' : (match Region.binds .any y with
      | true => @Bool.rec (fun _ => Bool) false (edgesBack i l) (Nat.blt y.on i)
      | false => edgesBack i l) = true := h
    rcases List.mem_cons.mp hx with rfl | hx
    · rw [hb] at h'
      simp only at h'
      cases hy : Nat.blt x.on i with
      | false => rw [hy] at h'; cases h'
      | true => exact Nat.le_of_ble_eq_true hy
    · refine ih ?_ x hx hb
      split at h'
      · cases hy : Nat.blt y.on i with
        | false => rw [hy] at h'; cases h'
        | true => rw [hy] at h'; exact h'
      · exact h'

theorem edgesIn_iff {D : Nat} : ∀ {l : List Edge}, edgesIn D l = true ↔ ∀ e ∈ l, Region.binds .any e = true → D.testBit e.on = true := by
  intro l
  induction l with
  | nil => exact ⟨fun _ x h => (by cases h), fun _ => rfl⟩
  | cons y l ih =>
    have h' : edgesIn D (y :: l) = (match Region.binds .any y with
      | true => @Bool.rec (fun _ => Bool) false (edgesIn D l) (D.testBit y.on)
      | false => edgesIn D l) := rfl
    rw [h']
    simp only [List.forall_mem_cons]
    cases hb : Region.binds .any y with
    | false => simp only [Bool.false_eq_true, false_implies, true_and]; exact ih
    | true =>
      simp only [true_implies]
      cases ht : D.testBit y.on with
      | false => simp
      | true => simp only [true_and]; exact ih

/-- The set of one operation's predecessors. -/
noncomputable def edgeSet (acc : List Nat) (l : List Edge) : Nat := @List.rec Edge (fun _ => Nat) 0 (fun e _ s => match Region.binds .any e with
      | true => Nat.lor s (Nat.lor (2 ^ e.on) (match lget acc e.on with
        | some m => m
        | none => 0))
      | false => s) l

theorem edgeSet_spec {acc : List Nat} : ∀ {l : List Edge} {j : Nat}, (edgeSet acc l).testBit j = true → ∃ e ∈ l, Region.binds .any e = true ∧ (e.on = j ∨ ∃ m, acc[e.on]? = some m ∧ m.testBit j = true) := by
  intro l
  induction l with
  | nil => intro j h; exact absurd h (by simp [edgeSet])
  | cons y l ih =>
    intro j h
    have h' : (match Region.binds .any y with
      | true => Nat.lor (edgeSet acc l) (Nat.lor (2 ^ y.on) (match lget acc y.on with
        | some m => m
        | none => 0))
      | false => edgeSet acc l).testBit j = true := h
    cases hb : Region.binds .any y with
    | false =>
      rw [hb] at h'
      obtain ⟨e, h1, h2⟩ := ih h'
      exact ⟨e, List.mem_cons_of_mem _ h1, h2⟩
    | true =>
      rw [hb] at h'
      simp only at h'
      have h2 : ((edgeSet acc l) ||| ((2 ^ y.on) ||| (match lget acc y.on with
        | some m => m
        | none => 0))).testBit j = true := h'
      rw [Nat.testBit_or, Nat.testBit_or, Bool.or_eq_true, Bool.or_eq_true] at h2
      rcases h2 with h2 | h2 | h2
      · obtain ⟨e, h1, h2⟩ := ih h2
        exact ⟨e, List.mem_cons_of_mem _ h1, h2⟩
      · rw [Nat.testBit_two_pow] at h2
        exact ⟨y, List.mem_cons_self, hb, .inl (of_decide_eq_true h2)⟩
      · rw [lget_eq] at h2
        split at h2
        · rename_i m hm
          exact ⟨y, List.mem_cons_self, hb, .inr ⟨m, hm, h2⟩⟩
        · simp at h2

theorem aheadOf_spec : ∀ (l : List Oper) (acc : List Nat), ∃ r, aheadOf l acc = acc ++ r ∧ r.length = l.length ∧
    ∀ k o, l[k]? = some o → ∃ m, (acc ++ r)[acc.length + k]? = some m ∧ ∀ j, m.testBit j = true → ∃ e ∈ o.after, Region.binds .any e = true ∧ (e.on = j ∨ ∃ m', (acc ++ r)[e.on]? = some m' ∧ m'.testBit j = true) := by
  intro l
  induction l with
  | nil => intro acc; exact ⟨[], (List.append_nil _).symm, rfl, fun k o h => by simp at h⟩
  | cons o l ih =>
    intro acc
    obtain ⟨r, h1, h2, h3⟩ := ih (acc ++ [edgeSet acc o.after.toList])
    refine ⟨edgeSet acc o.after.toList :: r, ?_, by simp [h2], ?_⟩
    · have : aheadOf (o :: l) acc = aheadOf l (acc ++ [edgeSet acc o.after.toList]) := rfl
      rw [this, h1]; simp
    · intro k o' hk
      cases k with
      | zero =>
        cases hk
        refine ⟨edgeSet acc o.after.toList, by simp, fun j hj => ?_⟩
        obtain ⟨e, g1, g2, g3⟩ := edgeSet_spec hj
        refine ⟨e, by simpa using g1, g2, g3.imp id fun ⟨m, k1, k2⟩ => ⟨m, ?_, k2⟩⟩
        rw [List.getElem?_append_left (List.getElem?_eq_some_iff.mp k1).1]
        exact k1
      | succ k =>
        obtain ⟨m, g1, g2⟩ := h3 k o' (by simpa using hk)
        have e : acc ++ [edgeSet acc o.after.toList] ++ r = acc ++ edgeSet acc o.after.toList :: r := by simp
        rw [e] at g1 g2
        refine ⟨m, ?_, g2⟩
        rw [← g1]
        congr 1
        simp
        omega

noncomputable def mkInfo (ops : Array Oper) (ah : List Nat) (k : Nat) (o : Oper) : RInfo where
  i := k
  o := o
  names := namesOf ops o
  ahead := match lget ah k with
    | some m => m
    | none => 0
  heavy := isHeavy ops k o

theorem infos_get (ah : List Nat) : ∀ (l : List Oper) (i k : Nat), (infos ops ah l i)[k]? = (l[k]?).map fun o => mkInfo ops ah (i + k) o := by
  intro l
  induction l with
  | nil => intro i k; rfl
  | cons o l ih =>
    intro i k
    cases k with
    | zero => rfl
    | succ k =>
      have : (infos ops ah (o :: l) i)[k + 1]? = (infos ops ah l (i + 1))[k]? := rfl
      rw [this, ih]
      simp only [List.getElem?_cons_succ, Nat.add_assoc, Nat.add_comm 1 k]

/-- The tables of a region stand by its operations. -/
structure LOk (ops : Array Oper) (L : List RInfo) : Prop where
  get : ∀ (i : Nat) (o : Oper), ops[i]? = some o → ∃ x : RInfo, L[i]? = some x ∧ x.i = i ∧ x.o = o
  mem : ∀ (k : Nat) (x : RInfo), L[k]? = some x → x.i = k ∧ ops[k]? = some x.o ∧ x.names = namesOf ops x.o
  ahead : ∀ x ∈ L, ∀ j, x.ahead.testBit j = true → ∃ e ∈ x.o.after, Region.binds .any e = true ∧ (e.on = j ∨ ∃ y ∈ L, y.i = e.on ∧ y.ahead.testBit j = true)

theorem infosOf_ok (ops : Array Oper) : LOk ops (infosOf ops) := by
  obtain ⟨r, h1, h2, h3⟩ := aheadOf_spec ops.toList []
  rw [List.nil_append] at h1
  simp only [List.nil_append, List.length_nil, Nat.zero_add] at h3
  have hg : ∀ k, (infosOf ops)[k]? = (ops[k]?).map fun o => mkInfo ops r k o := fun k => by
    unfold infosOf
    rw [infos_get, h1]
    simp only [Nat.zero_add, Array.getElem?_toList]
  refine ⟨fun i o h => ?_, fun k x h => ?_, fun x hx j hj => ?_⟩
  · rw [hg, h]
    exact ⟨_, rfl, rfl, rfl⟩
  · rw [hg] at h
    cases ho : ops[k]? with
    | none => rw [ho] at h; cases h
    | some o => rw [ho] at h; cases h; exact ⟨rfl, rfl, rfl⟩
  · obtain ⟨k, hk⟩ := List.mem_iff_getElem?.mp hx
    have hk' := hk
    rw [hg] at hk
    cases ho : ops[k]? with
    | none => rw [ho] at hk; cases hk
    | some o =>
      rw [ho] at hk
      cases hk
      obtain ⟨m, g1, g2⟩ := h3 k o (by simpa using ho)
      simp only [mkInfo, lget_eq, g1] at hj
      obtain ⟨e, k1, k2, k3⟩ := g2 j hj
      refine ⟨e, k1, k2, k3.imp id fun ⟨m', n1, n2⟩ => ?_⟩
      have hlt : e.on < ops.toList.length := h2 ▸ (List.getElem?_eq_some_iff.mp n1).1
      have hlt' : e.on < ops.size := by simpa using hlt
      have hge := hg e.on
      rw [Array.getElem?_eq_getElem hlt', Option.map_some] at hge
      refine ⟨_, List.mem_of_getElem? hge, rfl, ?_⟩
      simp only [mkInfo, lget_eq, n1]
      exact n2

/-- What is asked of the tables. -/
structure ROk (L : List RInfo) : Prop where
  back : ∀ x ∈ L, ∀ e ∈ x.o.after, Region.binds .any e = true → e.on < x.i
  read : ∀ x ∈ L, ∀ y ∈ L, y.heavy = false → ∀ d, y.o.dst = some d → d ∈ x.names → x.ahead.testBit y.i = true

theorem regionOk_spec {L : List RInfo} (h : regionOk L = true) : ROk L := by
  have h1 := allInfo_spec h
  refine ⟨fun x hx e he hb => ?_, fun x hx y hy hh d hd hn => ?_⟩
  · have := h1 x hx
    simp only [Bool.and_eq_true] at this
    exact edgesBack_spec this.1 e (by simpa using he) hb
  · have := h1 x hx
    simp only [Bool.and_eq_true] at this
    have := allInfo_spec this.2 y hy
    rw [hh, hd] at this
    simp only [hasNat_iff.mpr hn] at this
    exact this

end
end Go.Ke

namespace Go.Ke
open Go.RowKit (Below)

section
variable {P : Program} {N : Nat} {ρ : Loc} {σ : St} {w : World} {T : Tr Value} {a : Act} {n : Nat} {ops : Array Oper} {L : List RInfo} {self : FuncId → List Value → St → Option (Value × St)} {Q : Exit → Act → World → Prop}

theorem float_sound {o : Oper} {v : Value} (h : floatEval P σ T ops o = some v)
    (hr : Rel P N ρ σ w) (hx : ∀ z ∈ o.op.operands, ∀ s, z = .tmp s → TRs ρ T a s) (hg : ∀ j want g d, o.guard = some (j, want) → ops[j]? = some g → g.dst = some d → TRs ρ T a d)
    {i : Nat} (hi : ops[i]? = some o) {K : Act → World → Prop} (hK : ∀ v', VRel ρ v v' → K (a.put o.dst v') w) : wpOp P ops Q i K a w := by
  unfold wpOp
  simp only [hi]
  rw [guardOk_sound hg]
  unfold floatEval at h
  split at h
  · rename_i hgd
    rw [hgd]
    cases h
    simp only [Bool.false_eq_true, if_false]
    exact hK undef (undef_rel _)
  · rename_i hgd
    rw [hgd]
    simp only [if_true]
    refine .inl ?_
    unfold Oper.wp
    split at h
    · rename_i u hv
      cases h
      obtain ⟨v', h1, h2⟩ := op_sound hr hv hx
      rw [h1]
      exact hK v' h2
    · cases h

theorem put_other {dst : Option Nat} {t : Nat} {v : Value} (h : dst ≠ some t) (ht : TRs ρ T a t) : TRs ρ T (a.put dst v) t := by
  cases dst with
  | none => exact ht
  | some d =>
    have hne : d ≠ t := fun e => h (by rw [e])
    unfold TRs at *
    have : (a.put (some d) v).tmps.getD t undef = a.tmps.getD t undef := by
      simp [Act.put, hne]
    rw [this]
    exact ht

theorem put_same {t : Nat} {v : Value} (hs : a.tmps.size = n) (ht : t < n) (h : VRel ρ (tmpOf T t) v) : TRs ρ T (a.put (some t) v) t := by
  unfold TRs
  have : (a.put (some t) v).tmps.getD t undef = v := by simp [Act.put, hs, ht]
  rw [this]
  exact h

theorem lor_bit {D i j : Nat} : (Nat.lor D (2 ^ i)).testBit j = (D.testBit j || decide (i = j)) := by
  have : (D ||| 2 ^ i).testBit j = (D.testBit j || (2 ^ i).testBit j) := Nat.testBit_or ..
  rw [Nat.testBit_two_pow] at this
  exact this

/-! ### New blocks that are still to come -/

/-- A block that the abstract heap has ahead of the world. -/
theorem put_pending {b : Born} (hr : Rel P N ρ σ w) : Rel P N ρ (σ.put (b.obj σ.next)) w := by
  have hnone := hr.fresh_none
  have hclsNew : (b.obj σ.next).clsOf σ.next = σ.next := by cases b <;> rfl
  have hget : ∀ j, (σ.put (b.obj σ.next)).heap.get j = if j = σ.next then some (b.obj σ.next) else σ.heap.get j := fun j => by show (σ.heap.set _ _).get j = _; rw [Tr.get_set]
  have hne : ∀ k p, ρ k = some p → k ≠ σ.next := fun k p hk e => by rw [e, hnone] at hk; cases hk
  have hold : ∀ k p ob, ρ k = some p → (σ.put (b.obj σ.next)).heap.get k = some ob → σ.heap.get k = some ob := fun k p ob hk ho => by rw [hget, if_neg (hne k p hk)] at ho; exact ho
  refine ⟨fun k p hk => ?_, fun k ob ho => ?_, fun c x hx => ?_, fun k p ob hk ho => ?_, fun k k' p p' o1 o2 hk hk' hbb ho ho' => hr.sep k k' p p' o1 o2 hk hk' hbb (hold _ _ _ hk ho) (hold _ _ _ hk' ho'), fun k k' o1 o2 ho ho' hc hn => ?_, hr.glob, hr.size⟩
  · obtain ⟨h1, ob, hob, hor⟩ := hr.dom k p hk
    exact ⟨h1, ob, by rw [hget, if_neg (hne k p hk)]; exact hob, hor⟩
  · rw [hget] at ho
    by_cases e : k = σ.next
    · rw [if_pos e] at ho
      cases ho
      subst e
      rw [hclsNew]
      exact ⟨Nat.lt_succ_self _, Nat.lt_succ_self _⟩
    · rw [if_neg e] at ho
      have := hr.above k ob ho
      exact ⟨Nat.lt_succ_of_lt this.1, Nat.lt_succ_of_lt this.2⟩
  · have := hr.clsAbove c x hx
    exact ⟨Nat.lt_succ_of_lt this.1, fun k e hm => Nat.lt_succ_of_lt (this.2 k e hm)⟩
  · have hlt := (hr.dom k p hk).1
    exact (hr.obj k p ob hk (hold _ _ _ hk ho)).later (Loc.le_refl ρ) rfl id (fun _ a => a) fun x' hx' e' hm => ⟨x', hx', hm⟩
  · rw [hget] at ho ho'
    by_cases e : k = σ.next
    · by_cases e' : k' = σ.next
      · rw [e, e']
      · subst e
        rw [if_pos rfl] at ho
        cases ho
        rw [if_neg e'] at ho'
        rw [hclsNew] at hc
        have := (hr.above k' o2 ho').2
        omega
    · by_cases e' : k' = σ.next
      · subst e'
        rw [if_pos rfl] at ho'
        cases ho'
        rw [if_neg e] at ho
        rw [hclsNew] at hc
        have := (hr.above k o1 ho).2
        omega
      · rw [if_neg e] at ho
        rw [if_neg e'] at ho'
        exact hr.lone k k' o1 o2 ho ho' hc hn

/-- The world makes a block that the abstract heap has had. -/
theorem late_sound {w' : World} {k : Nat} {b : Born} {ob : Obj} (hr : Rel P N ρ σ w) (hk0 : ρ k = none) (hh0 : σ.heap.get k = some (b.obj k)) (hc0 : σ.cls.get k = none) (hb : BornRel P ρ b ob) (hh : w'.heap = w.heap.push ob) :
    Rel P N (ρ.ext k ⟨w.heap.size, 0, objCells ob, bornSz P b⟩) σ w' := by
  have hle : ρ.le (ρ.ext k ⟨w.heap.size, 0, objCells ob, bornSz P b⟩) := Loc.le_ext hk0
  have hext : ∀ j, j ≠ k → ρ.ext k ⟨w.heap.size, 0, objCells ob, bornSz P b⟩ j = ρ j := fun j hj => by unfold Loc.ext; rw [if_neg hj]
  have hself : ρ.ext k ⟨w.heap.size, 0, objCells ob, bornSz P b⟩ k = some ⟨w.heap.size, 0, objCells ob, bornSz P b⟩ := by unfold Loc.ext; rw [if_pos rfl]
  have hat : ∀ i, i < w.heap.size → w'.heap[i]? = w.heap[i]? := fun i hi => by rw [hh, Array.getElem?_push, if_neg (by omega)]
  have hnew : w'.heap[w.heap.size]? = some ob := by rw [hh]; simp
  refine ⟨fun j p hj => ?_, hr.above, hr.clsAbove, fun j p ob' hj ho => ?_, fun j j' p p' o1 o2 hj hj' hbb ho ho' => ?_, hr.lone, fun g hg => ?_, by rw [hh]; have := hr.size; simp; omega⟩
  · by_cases e : j = k
    · subst e
      rw [hself] at hj
      cases hj
      exact ⟨by rw [hh]; simp, _, hh0, .inl hr.size⟩
    · rw [hext j e] at hj
      obtain ⟨h1, ob', hob, hor⟩ := hr.dom j p hj
      exact ⟨by rw [hh]; simp; omega, ob', hob, hor⟩
  · by_cases e : j = k
    · subst e
      rw [hself] at hj
      cases hj
      rw [hh0] at ho
      cases ho
      cases b with
      | row cells elem =>
        obtain ⟨c, fz, rfl, hle', hfz, hc⟩ := hb
        refine ⟨rfl, c, fz, ⟨hnew, rfl, Nat.zero_le _, fun _ => ⟨by simpa using hle', fun i v hi hv => ?_⟩, fun i hi _ => by simpa using hfz i (by simpa using hi), fun x hx => ?_, fun _ => rfl⟩⟩
        · rw [get_fillTr] at hv
          rw [if_pos (by omega)] at hv
          obtain ⟨y, hy, hrel⟩ := hc i v (by simpa using hv)
          exact ⟨y, by simpa using hy, hrel.mono hle⟩
        · rw [hc0] at hx; cases hx
      | map => exact ⟨#[], by rw [hnew, show ob = .map #[] 0 from hb], .nil⟩
      | mapIter m clock =>
        obtain ⟨m', rfl, hm⟩ := hb
        exact ⟨rfl, m', by rw [hnew], hm.mono hle⟩
      | strIter s => exact ⟨rfl, by rw [hnew, show ob = .stringIter s 0 from hb]⟩
    · rw [hext j e] at hj
      have hlt := (hr.dom j p hj).1
      exact (hr.obj j p ob' hj ho).later hle (hat _ hlt) id (fun _ a => a) fun x' hx' e' hm => ⟨x', hx', hm⟩
  · by_cases e : j = k
    · by_cases e' : j' = k
      · subst e
        subst e'
        rw [ho] at ho'
        cases ho'
        rw [hself] at hj hj'
        cases hj
        cases hj'
        exact ⟨rfl, rfl⟩
      · subst e
        rw [hext j' e'] at hj'
        rw [hself] at hj
        cases hj
        have := (hr.dom j' p' hj').1
        simp only at hbb
        omega
    · by_cases e' : j' = k
      · subst e'
        rw [hext j e] at hj
        rw [hself] at hj'
        cases hj'
        have := (hr.dom j p hj).1
        simp only at hbb
        omega
      · rw [hext j e] at hj
        rw [hext j' e'] at hj'
        exact hr.sep j j' p p' o1 o2 hj hj' hbb ho ho'
  · obtain ⟨p, hp, h1⟩ := hr.glob g hg
    exact ⟨p, hle _ _ hp, h1⟩

theorem mk_other {n k : Nat} {p : Pl} {mk : Mk} {v : Value} (h : VRel (ρ.ext n p) (mk.val n) v) : VRel (ρ.ext k p) (mk.val k) v := by
  have hs : ∀ q, ρ.ext n p n = some q → q = p := fun q hq => by rw [ext_self] at hq; cases hq; rfl
  cases mk with
  | ptr =>
    cases h with
    | ptr k' off q hq =>
      cases hs _ hq
      exact .ptr k 0 p (ext_self _ _ _)
  | slice len cap =>
    cases h with
    | slice k' off l c q off' cap' hq hl ha hc hs' =>
      cases hs _ hq
      exact .slice k 0 len cap p off' cap' (ext_self _ _ _) hl ha hc hs'
  | map =>
    cases h with
    | map k' q hq =>
      cases hs _ hq
      exact .map k p (ext_self _ _ _)

theorem born_sound {o : Oper} {b : Born} {mk : Mk} {k : Nat} (h : bornEval P σ T ops o = some (b, mk)) (hr : Rel P N ρ σ w) (hk0 : ρ k = none) (hh0 : σ.heap.get k = some (b.obj k)) (hc0 : σ.cls.get k = none)
    (hx : ∀ z ∈ o.op.operands, ∀ s, z = .tmp s → TRs ρ T a s) (hg : ∀ j want g d, o.guard = some (j, want) → ops[j]? = some g → g.dst = some d → TRs ρ T a d)
    {i : Nat} (hi : ops[i]? = some o) {K : Act → World → Prop} (hK : ∀ ρ' v' w', ρ.le ρ' → (∀ j, j ≠ k → ρ' j = ρ j) → Rel P N ρ' σ w' → Below N w w' → VRel ρ' (mk.val k) v' → K (a.put o.dst v') w') : wpOp P ops Q i K a w := by
  unfold wpOp
  simp only [hi]
  rw [guardOk_sound hg]
  unfold bornEval at h
  split at h
  · cases h
  · rename_i hgd
    rw [hgd]
    simp only [if_true]
    refine .inl ?_
    unfold Oper.wp
    split at h
    · rename_i b' mk' hv
      cases h
      obtain ⟨ob, v', w', h1, h2, h3, h4, h5, h6, h7⟩ := op_sound hr hv hx
      rw [h1]
      exact hK _ v' w' (Loc.le_ext hk0) (fun j hj => by unfold Loc.ext; rw [if_neg hj]) (late_sound hr hk0 hh0 hc0 h6 h2) (push_below hr.size h2 h3 h4 h5) (mk_other h7)
    · cases h

theorem bornEq_eq {b b' : Born} (h : bornEq b b' = true) : b = b' := by
  unfold bornEq at h
  split at h
  · rw [Bool.and_eq_true] at h
    rw [Nat.eq_of_beq_eq_true h.1, veqL_eq h.2]
  · rfl
  · cases h

/-! ### One pass -/

structure SatSpec (n : Nat) (l : List RInfo) (D : Nat) (T : Tr Value) (H : List Flo) (hv : List RInfo) (D1 : Nat) (T1 : Tr Value) (H1 : List Flo) (hv1 : List RInfo) : Prop where
  mono : ∀ j, D.testBit j = true → D1.testBit j = true
  new : ∀ j, D1.testBit j = true → D.testBit j = true ∨ ∃ f ∈ H1, f.x.i = j ∧ f.x ∈ l
  keep : ∀ f ∈ H, f ∈ H1
  come : ∀ f ∈ H1, f ∈ H ∨ (f.x ∈ l ∧ f.x.heavy = false ∧ f.born = none ∧ D1.testBit f.x.i = true ∧ ∀ d, f.x.o.dst = some d → d < n)
  slot : ∀ t, tmpOf T1 t = tmpOf T t ∨ ∃ f ∈ H1, D.testBit f.x.i = false ∧ f.x.o.dst = some t
  hvKeep : ∀ x ∈ hv, x ∈ hv1
  hvCome : ∀ x ∈ hv1, x ∈ hv ∨ (x ∈ l ∧ x.heavy = true ∧ D1.testBit x.i = false)
  full : ∀ x ∈ l, D1.testBit x.i = false → (∀ e ∈ x.o.after, Region.binds .any e = true → D1.testBit e.on = true) → x ∈ hv1

theorem satRun_cons (x : RInfo) (l : List RInfo) (D : Nat) (T : Tr Value) (H : List Flo) (hv : List RInfo) : satRun P n ops σ (x :: l) D T H hv = match D.testBit x.i with
      | true => satRun P n ops σ l D T H hv
      | false => match edgesIn D x.o.after.toList with
        | false => satRun P n ops σ l D T H hv
        | true => match x.heavy with
          | true => satRun P n ops σ l D T H (x :: hv)
          | false => match floatEval P σ T ops x.o with
            | none => none
            | some v => match putT n T x.o.dst v with
              | none => none
              | some T' => satRun P n ops σ l (Nat.lor D (2 ^ x.i)) T' ({ x, v, born := none } :: H) hv := rfl

theorem satRun_spec : ∀ (l : List RInfo) (base : Nat), (∀ (k : Nat) (x : RInfo), l[k]? = some x → x.i = base + k) → (∀ x ∈ l, ∀ e ∈ x.o.after, Region.binds .any e = true → e.on < x.i) →
    ∀ {D D1 : Nat} {T T1 : Tr Value} {H H1 : List Flo} {hv hv1 : List RInfo}, satRun P n ops σ l D T H hv = some (D1, T1, H1, hv1) → SatSpec n l D T H hv D1 T1 H1 hv1 := by
  intro l
  induction l with
  | nil =>
    intro base _ _ D D1 T T1 H H1 hv hv1 h
    cases h
    exact ⟨fun _ h => h, fun _ h => .inl h, fun _ h => h, fun _ h => .inl h, fun _ => .inl rfl, fun _ h => h, fun _ h => .inl h, fun _ h => by cases h⟩
  | cons x l ih =>
    intro base hp hb D D1 T T1 H H1 hv hv1 h
    have hx : x.i = base := hp 0 x rfl
    have hp' : ∀ (k : Nat) (y : RInfo), l[k]? = some y → y.i = base + 1 + k := fun k y e => by have := hp (k + 1) y e; omega
    have hb' : ∀ y ∈ l, ∀ e ∈ y.o.after, Region.binds .any e = true → e.on < y.i := fun y hy => hb y (List.mem_cons_of_mem _ hy)
    have hl : ∀ y ∈ l, base < y.i := fun y hy => by
      obtain ⟨k, hk⟩ := List.mem_iff_getElem?.mp hy
      have := hp' k y hk
      omega
    have hin := fun e he hbd => hb x List.mem_cons_self e he hbd
    rw [satRun_cons] at h
    split at h
    · rename_i hd
      have s := ih (base + 1) hp' hb' h
      refine ⟨s.mono, fun j hj => (s.new j hj).imp id fun ⟨f, h1, h2, h3⟩ => ⟨f, h1, h2, List.mem_cons_of_mem _ h3⟩, s.keep, fun f hf => (s.come f hf).imp id fun ⟨h1, h2⟩ => ⟨List.mem_cons_of_mem _ h1, h2⟩,
        s.slot, s.hvKeep, fun y hy => (s.hvCome y hy).imp id fun ⟨h1, h2⟩ => ⟨List.mem_cons_of_mem _ h1, h2⟩, fun y hy hn he => ?_⟩
      rcases List.mem_cons.mp hy with rfl | hy
      · rw [s.mono _ hd] at hn; cases hn
      · exact s.full y hy hn he
    · rename_i hd
      split at h
      · rename_i hed
        have s := ih (base + 1) hp' hb' h
        refine ⟨s.mono, fun j hj => (s.new j hj).imp id fun ⟨f, h1, h2, h3⟩ => ⟨f, h1, h2, List.mem_cons_of_mem _ h3⟩, s.keep, fun f hf => (s.come f hf).imp id fun ⟨h1, h2⟩ => ⟨List.mem_cons_of_mem _ h1, h2⟩,
          s.slot, s.hvKeep, fun y hy => (s.hvCome y hy).imp id fun ⟨h1, h2⟩ => ⟨List.mem_cons_of_mem _ h1, h2⟩, fun y hy hn he => ?_⟩
        rcases List.mem_cons.mp hy with rfl | hy
        · exfalso
          have : edgesIn D y.o.after.toList = true := edgesIn_iff.mpr fun e he' hbd => by
            have he'' : e ∈ y.o.after := by simpa using he'
            rcases s.new _ (he e he'' hbd) with h1 | ⟨f, _, h2, h3⟩
            · exact h1
            · have := hl _ h3
              have := hin e he'' hbd
              omega
          rw [this] at hed
          cases hed
        · exact s.full y hy hn he
      · split at h
        · rename_i hh
          have s := ih (base + 1) hp' hb' h
          refine ⟨s.mono, fun j hj => (s.new j hj).imp id fun ⟨f, h1, h2, h3⟩ => ⟨f, h1, h2, List.mem_cons_of_mem _ h3⟩, s.keep, fun f hf => (s.come f hf).imp id fun ⟨h1, h2⟩ => ⟨List.mem_cons_of_mem _ h1, h2⟩,
            s.slot, fun y hy => s.hvKeep y (List.mem_cons_of_mem _ hy), fun y hy => ?_, fun y hy hn he => ?_⟩
          · rcases s.hvCome y hy with h1 | ⟨h1, h2⟩
            · rcases List.mem_cons.mp h1 with rfl | h1
              · refine .inr ⟨List.mem_cons_self, hh, ?_⟩
                cases hb1 : D1.testBit y.i with
                | false => rfl
                | true =>
                  rcases s.new _ hb1 with h4 | ⟨f, _, h5, h6⟩
                  · rw [hd] at h4; cases h4
                  · have := hl _ h6; omega
              · exact .inl h1
            · exact .inr ⟨List.mem_cons_of_mem _ h1, h2⟩
          · rcases List.mem_cons.mp hy with rfl | hy
            · exact s.hvKeep _ List.mem_cons_self
            · exact s.full y hy hn he
        · rename_i hh
          split at h
          · cases h
          · rename_i v hv1
            split at h
            · cases h
            · rename_i T' hT'
              have s := ih (base + 1) hp' hb' h
              have hnew : ∀ j, D.testBit j = true → (Nat.lor D (2 ^ x.i)).testBit j = true := fun j hj => by rw [lor_bit, hj]; rfl
              have hold : ∀ j, (Nat.lor D (2 ^ x.i)).testBit j = false → D.testBit j = false := fun j hj => by
                cases hc : D.testBit j with
                | false => rfl
                | true => rw [hnew j hc] at hj; cases hj
              have hself : ({ x, v, born := none } : Flo) ∈ H1 := s.keep _ List.mem_cons_self
              refine ⟨fun j hj => s.mono j (hnew j hj), fun j hj => ?_, fun f hf => s.keep f (List.mem_cons_of_mem _ hf), fun f hf => ?_, fun t => ?_, s.hvKeep,
                fun y hy => (s.hvCome y hy).imp id fun ⟨h1, h2⟩ => ⟨List.mem_cons_of_mem _ h1, h2⟩, fun y hy hn he => ?_⟩
              · rcases s.new j hj with h1 | ⟨f, h1, h2, h3⟩
                · rw [lor_bit, Bool.or_eq_true] at h1
                  rcases h1 with h1 | h1
                  · exact .inl h1
                  · exact .inr ⟨_, hself, of_decide_eq_true h1, List.mem_cons_self⟩
                · exact .inr ⟨f, h1, h2, List.mem_cons_of_mem _ h3⟩
              · rcases s.come f hf with h1 | ⟨h1, h2, h3, h3', h4⟩
                · rcases List.mem_cons.mp h1 with rfl | h1
                  · refine .inr ⟨List.mem_cons_self, hh, rfl, s.mono x.i (by rw [lor_bit]; simp), fun d hdd => ?_⟩
                    rcases putT_spec hT' with ⟨h5, _⟩ | ⟨d', h5, h6, _⟩
                    · have hdd' : x.o.dst = some d := hdd
                      rw [h5] at hdd'; cases hdd'
                    · have hdd' : x.o.dst = some d := hdd
                      rw [h5] at hdd'; cases hdd'; exact h6
                  · exact .inl h1
                · exact .inr ⟨List.mem_cons_of_mem _ h1, h2, h3, h3', h4⟩
              · rcases s.slot t with h1 | ⟨f, h1, h2, h3⟩
                · rcases putT_spec hT' with ⟨h5, h6⟩ | ⟨d', h5, h6, h7⟩
                  · rw [h1, h6]; exact .inl rfl
                  · by_cases e : t = d'
                    · subst e
                      exact .inr ⟨_, hself, hd, h5⟩
                    · rw [h1, h7, tmpOf_set, if_neg e]; exact .inl rfl
                · exact .inr ⟨f, h1, hold _ h2, h3⟩
              · rcases List.mem_cons.mp hy with rfl | hy
                · have := s.mono y.i (by rw [lor_bit]; simp)
                  rw [this] at hn; cases hn
                · exact s.full y hy hn he

/-- What is asked of an operation that may still float. -/
def FloOk (P : Program) (σ : St) (T : Tr Value) (ops : Array Oper) (f : Flo) : Prop :=
  (match f.born with
  | none => floatEval P σ T ops f.x.o = some f.v
  | some (k, b) => ∃ mk, bornEval P σ T ops f.x.o = some (b, mk) ∧ f.v = mk.val k) ∧ ∀ d, f.x.o.dst = some d → tmpOf T d = f.v

theorem slotIs_spec {f : Flo} (h : slotIs T f = true) : ∀ d, f.x.o.dst = some d → tmpOf T d = f.v := fun d hd => by
  unfold slotIs at h
  rw [hd] at h
  exact veq_eq h

theorem floIs_spec {f : Flo} (h : floIs P σ T ops f = true) : FloOk P σ T ops f := by
  unfold floIs at h
  unfold FloOk
  split at h
  · rename_i hb
    split at h
    · cases h
    · rename_i v hv
      rw [Bool.and_eq_true] at h
      have := veq_eq h.1
      subst this
      rw [hb]
      exact ⟨hv, slotIs_spec h.2⟩
  · rename_i k b hb
    split at h
    · cases h
    · rename_i b' mk hv
      rw [Bool.and_eq_true, Bool.and_eq_true] at h
      have := bornEq_eq h.1
      subst this
      rw [hb]
      exact ⟨⟨mk, hv, (veq_eq h.2.1).symm⟩, slotIs_spec h.2.2⟩

theorem recheck_spec : ∀ {H : List Flo}, recheck P σ T ops H = true → ∀ f ∈ H, FloOk P σ T ops f := by
  intro H
  induction H with
  | nil => intro _ f hf; cases hf
  | cons g H ih =>
    intro h f hf
    have h' : @Bool.rec (fun _ => Bool) false (recheck P σ T ops H) (floIs P σ T ops g) = true := h
    cases hg : floIs P σ T ops g with
    | false => rw [hg] at h'; cases h'
    | true =>
      rw [hg] at h'
      rcases List.mem_cons.mp hf with rfl | hf
      · exact floIs_spec hg
      · exact ih h' f hf

theorem noBorn_spec : ∀ {H : List Flo}, noBorn H = true → ∀ f ∈ H, f.born = none := by
  intro H
  induction H with
  | nil => intro _ f hf; cases hf
  | cons g H ih =>
    intro h f hf
    have h' : (match g.born with
    | none => noBorn H
    | some _ => false) = true := h
    split at h'
    · rename_i hg
      rcases List.mem_cons.mp hf with rfl | hf
      · exact hg
      · exact ih h' f hf
    · cases h'

/-- Whoever looks at the slot stands behind. -/
def Reads (L : List RInfo) (y : RInfo) : Prop := ∀ x ∈ L, ∀ d, y.o.dst = some d → d ∈ x.names → x.ahead.testBit y.i = true

theorem readOk_spec {y : RInfo} (h : readOk L y = true) : Reads L y := by
  intro x hx d hd hn
  have := allInfo_spec h x hx
  simp only [hd, hasNat_iff.mpr hn] at this
  exact this

theorem keepFlo_mem {h : RInfo} {f : Flo} : ∀ {H : List Flo}, f ∈ keepFlo h H ↔ f ∈ H ∧ h.ahead.testBit f.x.i = false := by
  intro H
  induction H with
  | nil => exact ⟨fun h => (by cases h), fun h => (by cases h.1)⟩
  | cons g H ih =>
    have : keepFlo h (g :: H) = (match h.ahead.testBit g.x.i with
    | true => keepFlo h H
    | false => g :: keepFlo h H) := rfl
    rw [this]
    cases hb : h.ahead.testBit g.x.i with
    | true =>
      simp only [ih, List.mem_cons]
      constructor
      · exact fun h => ⟨.inr h.1, h.2⟩
      · rintro ⟨rfl | h1, h2⟩
        · rw [hb] at h2; cases h2
        · exact ⟨h1, h2⟩
    | false =>
      simp only [List.mem_cons, ih]
      constructor
      · rintro (rfl | h1)
        · exact ⟨.inl rfl, hb⟩
        · exact ⟨.inr h1.1, h1.2⟩
      · rintro ⟨rfl | h1, h2⟩
        · exact .inl rfl
        · exact .inr ⟨h1, h2⟩

/-! ### A stage -/

structure Hist (n : Nat) (L : List RInfo) (H : List Flo) : Prop where
  mem : ∀ f ∈ H, f.x ∈ L
  reads : ∀ f ∈ H, Reads L f.x
  room : ∀ f ∈ H, ∀ d, f.x.o.dst = some d → d < n

structure Stage (P : Program) (n : Nat) (ops : Array Oper) (L : List RInfo) (σ : St) (D : Nat) (T : Tr Value) (H : List Flo) (hv : List RInfo) : Prop where
  hist : Hist n L H
  vals : ∀ f ∈ H, FloOk P σ T ops f
  full : ∀ x ∈ L, D.testBit x.i = false → (∀ e ∈ x.o.after, Region.binds .any e = true → D.testBit e.on = true) → x ∈ hv
  heavies : ∀ x ∈ hv, x ∈ L ∧ x.heavy = true ∧ D.testBit x.i = false

/-- The blocks that are still to come. -/
structure Pend (ρ : Loc) (σ : St) (D : Nat) (H : List Flo) (listed : Array Bool) : Prop where
  inD : ∀ f ∈ H, D.testBit f.x.i = true
  heap : ∀ f ∈ H, ∀ k b, f.born = some (k, b) → σ.heap.get k = some (b.obj k) ∧ σ.cls.get k = none
  unb : ∀ f ∈ H, ∀ k b, f.born = some (k, b) → listed.getD f.x.i false = false → ρ k = none
  inj : ∀ f ∈ H, ∀ g ∈ H, ∀ k b b', f.born = some (k, b) → g.born = some (k, b') → f.x.i = g.x.i

structure Inv (P : Program) (N n : Nat) (ops : Array Oper) (L : List RInfo) (Dl : List Value) (ρ₀ : Loc) (w₀ : World) (D : Nat) (T : Tr Value) (σ : St) (H : List Flo) (listed : Array Bool) (a : Act) (w : World) (ρ : Loc) : Prop where
  le : ρ₀.le ρ
  rel : Rel P N ρ σ w
  below : Below N w₀ w
  size : a.tmps.size = n
  defers : DRel ρ Dl a.defers
  lsize : listed.size = ops.size
  sub : ∀ i, listed.getD i false = true → D.testBit i = true
  flo : ∀ i, D.testBit i = true → listed.getD i false = true ∨ ∃ f ∈ H, f.x.i = i
  closed : ∀ x ∈ L, listed.getD x.i false = true → ∀ j, x.ahead.testBit j = true → listed.getD j false = true
  slots : ∀ t, TRs ρ T a t ∨ ∃ f ∈ H, f.x.o.dst = some t ∧ listed.getD f.x.i false = false
  pend : Pend ρ σ D H listed

def Cont (P : Program) (self : FuncId → List Value → St → Option (Value × St)) (n : Nat) (ops : Array Oper) (L : List RInfo) (m D : Nat) (T : Tr Value) (σ : St) (H : List Flo) (hv : List RInfo) (Tf : Tr Value) (σf : St) : Prop :=
  (hv = [] ∧ allDone D L = true ∧ T = Tf ∧ σ = σf) ∨ ∃ h T' σ', hv = [h] ∧ noBorn (keepFlo h H) = true ∧ opRun P self n ops h.o T σ = some (T', σ') ∧ drawRun P self n ops L m (Nat.lor D (2 ^ h.i)) T' σ' (keepFlo h H) = some (Tf, σf)

theorem alone_eq {r : List RInfo} (h : alone r = true) : r = [] := by
  cases r with
  | nil => rfl
  | cons x r => cases h

theorem drawRun_unfold {m D : Nat} {H : List Flo} {Tf : Tr Value} {σf : St} (h : drawRun P self n ops L m D T σ H = some (Tf, σf)) :
    ∃ m' D1 T1 H1 hv, m = m' + 1 ∧ satRun P n ops σ L D T H [] = some (D1, T1, H1, hv) ∧ recheck P σ T1 ops H1 = true ∧ (Cont P self n ops L m' D1 T1 σ H1 hv Tf σf ∨
      ∃ D' T' σ' H', bornRun P n ops L hv D1 T1 σ H1 = some (D', T', σ', H') ∧ drawRun P self n ops L m' D' T' σ' H' = some (Tf, σf)) := by
  cases m with
  | zero => cases h
  | succ m =>
    have h' : (match satRun P n ops σ L D T H [] with
    | none => none
    | some (D, T, H, hv) => match recheck P σ T ops H with
      | false => none
      | true => match hv with
        | [] => match allDone D L with
          | true => some (T, σ)
          | false => none
        | h :: r => match alone r && noBorn (keepFlo h H) with
          | true => match opRun P self n ops h.o T σ with
            | some (T', σ') => drawRun P self n ops L m (Nat.lor D (2 ^ h.i)) T' σ' (keepFlo h H)
            | none => none
          | false => match bornRun P n ops L (h :: r) D T σ H with
            | some (D', T', σ', H') => drawRun P self n ops L m D' T' σ' H'
            | none => none) = some (Tf, σf) := h
    split at h'
    · cases h'
    · rename_i D1 T1 H1 hv hs
      split at h'
      · cases h'
      · rename_i hrc
        refine ⟨m, D1, T1, H1, hv, rfl, hs, hrc, ?_⟩
        split at h'
        · split at h'
          · rename_i hd
            cases h'
            exact .inl (.inl ⟨rfl, hd, rfl, rfl⟩)
          · cases h'
        · rename_i h0 r
          split at h'
          · rename_i hcond
            rw [Bool.and_eq_true] at hcond
            split at h'
            · rename_i T' σ' ho
              exact .inl (.inr ⟨h0, T', σ', by rw [alone_eq hcond.1], hcond.2, ho, h'⟩)
            · cases h'
          · split at h'
            · rename_i D' T' σ' H' hb
              exact .inr ⟨D', T', σ', H', hb, h'⟩
            · cases h'

theorem bornRun_sound {Dl : List Value} {ρ₀ : Loc} {w₀ : World} {listed : Array Bool} : ∀ (hv : List RInfo) {D D' : Nat} {T T' : Tr Value} {σ σ' : St} {H H' : List Flo}, bornRun P n ops L hv D T σ H = some (D', T', σ', H') →
    (∀ h ∈ hv, h ∈ L ∧ listed.getD h.i false = false) → Hist n L H → Inv P N n ops L Dl ρ₀ w₀ D T σ H listed a w ρ → Hist n L H' ∧ Inv P N n ops L Dl ρ₀ w₀ D' T' σ' H' listed a w ρ := by
  intro hv
  induction hv with
  | nil =>
    intro D D' T T' σ σ' H H' h _ hH hi
    cases h
    exact ⟨hH, hi⟩
  | cons h0 hv ih =>
    intro D D' T T' σ σ' H H' h hL0 hH hi
    have h' : (match readOk L h0 with
    | false => none
    | true => match bornEval P σ T ops h0.o with
      | none => none
      | some (b, mk) => match putT n T h0.o.dst (mk.val σ.next) with
        | none => none
        | some T' => bornRun P n ops L hv (Nat.lor D (2 ^ h0.i)) T' (σ.put (b.obj σ.next)) ({ x := h0, v := mk.val σ.next, born := some (σ.next, b) } :: H)) = some (D', T', σ', H') := h
    split at h'
    · cases h'
    · rename_i hrd
      split at h'
      · cases h'
      · rename_i b mk hb
        split at h'
        · cases h'
        · rename_i T1 hT1
          obtain ⟨g1, g2⟩ := hL0 h0 List.mem_cons_self
          have hroom : ∀ d, h0.o.dst = some d → d < n := fun d hd => by
            rcases putT_spec hT1 with ⟨h5, _⟩ | ⟨d', h5, h6, _⟩
            · rw [h5] at hd; cases hd
            · rw [h5] at hd; cases hd; exact h6
          have hget : ∀ j, (σ.put (b.obj σ.next)).heap.get j = if j = σ.next then some (b.obj σ.next) else σ.heap.get j := fun j => by show (σ.heap.set _ _).get j = _; rw [Tr.get_set]
          have hold : ∀ f ∈ H, ∀ k b', f.born = some (k, b') → k ≠ σ.next := fun f hf k b' hfb e => by
            have h1 := (hi.pend.heap f hf k b' hfb).1
            rw [e, hi.rel.fresh_heap] at h1
            cases h1
          refine ih h' (fun x hx => hL0 x (List.mem_cons_of_mem _ hx)) ⟨fun f hf => ?_, fun f hf => ?_, fun f hf => ?_⟩ ⟨hi.le, put_pending hi.rel, hi.below, hi.size, hi.defers, hi.lsize, fun j hj => ?_, fun j hj => ?_, hi.closed, fun t => ?_, ⟨fun f hf => ?_, fun f hf k b' hfb => ?_, fun f hf k b' hfb hfl => ?_, fun f hf g hg k b1 b2 h1 h2 => ?_⟩⟩
          · rcases List.mem_cons.mp hf with rfl | hf
            · exact g1
            · exact hH.mem f hf
          · rcases List.mem_cons.mp hf with rfl | hf
            · exact readOk_spec hrd
            · exact hH.reads f hf
          · rcases List.mem_cons.mp hf with rfl | hf
            · exact hroom
            · exact hH.room f hf
          · rw [lor_bit, hi.sub j hj]; rfl
          · rw [lor_bit, Bool.or_eq_true] at hj
            rcases hj with hj | hj
            · exact (hi.flo j hj).imp id fun ⟨f, h5, h6⟩ => ⟨f, List.mem_cons_of_mem _ h5, h6⟩
            · exact .inr ⟨_, List.mem_cons_self, of_decide_eq_true hj⟩
          · rcases putT_spec hT1 with ⟨h5, h6⟩ | ⟨d', h5, h6, h7⟩
            · rw [h6]
              exact (hi.slots t).imp id fun ⟨f, h1, h2⟩ => ⟨f, List.mem_cons_of_mem _ h1, h2⟩
            · by_cases e : t = d'
              · subst e
                exact .inr ⟨_, List.mem_cons_self, h5, g2⟩
              · rcases hi.slots t with h1 | ⟨f, h1, h2⟩
                · left; unfold TRs at *; rw [h7, tmpOf_set, if_neg e]; exact h1
                · exact .inr ⟨f, List.mem_cons_of_mem _ h1, h2⟩
          · rcases List.mem_cons.mp hf with rfl | hf
            · rw [lor_bit]; simp
            · rw [lor_bit, hi.pend.inD f hf]; rfl
          · rcases List.mem_cons.mp hf with rfl | hf
            · cases hfb
              refine ⟨by rw [hget, if_pos rfl], ?_⟩
              show σ.cls.get σ.next = none
              cases hc : σ.cls.get σ.next with
              | none => rfl
              | some x => have := (hi.rel.clsAbove _ _ hc).1; omega
            · rw [hget, if_neg (hold f hf k b' hfb)]
              exact hi.pend.heap f hf k b' hfb
          · rcases List.mem_cons.mp hf with rfl | hf
            · cases hfb
              exact hi.rel.fresh_none
            · exact hi.pend.unb f hf k b' hfb hfl
          · rcases List.mem_cons.mp hf with rfl | hf
            · rcases List.mem_cons.mp hg with rfl | hg
              · rfl
              · cases h1
                exact absurd rfl (hold g hg _ _ h2)
            · rcases List.mem_cons.mp hg with rfl | hg
              · cases h2
                exact absurd rfl (hold f hf _ _ h1)
              · exact hi.pend.inj f hf g hg k b1 b2 h1 h2

theorem enter (hL : LOk ops L) (hR : ROk L) {Tf : Tr Value} {σf : St} {Dl : List Value} {ρ₀ : Loc} {w₀ : World} {listed : Array Bool} : ∀ (m : Nat) {D : Nat} {H : List Flo} {T : Tr Value} {σ : St}, drawRun P self n ops L m D T σ H = some (Tf, σf) → Hist n L H → Inv P N n ops L Dl ρ₀ w₀ D T σ H listed a w ρ →
    ∃ m' D1 T1 σ1 H1 hv, Stage P n ops L σ1 D1 T1 H1 hv ∧ Cont P self n ops L m' D1 T1 σ1 H1 hv Tf σf ∧ Inv P N n ops L Dl ρ₀ w₀ D1 T1 σ1 H1 listed a w ρ := by
  intro m
  induction m with
  | zero => intro D H T σ h; cases h
  | succ m ih =>
    intro D H T σ h hH hi
    obtain ⟨m', D1, T1, H1, hv, hm, h1, h2, h3⟩ := drawRun_unfold h
    cases hm
    have s := satRun_spec L 0 (fun k x e => by rw [(hL.mem k x e).1]; omega) hR.back h1
    have hunl : ∀ j, D.testBit j = false → listed.getD j false = false := fun j hj => by
      cases hc : listed.getD j false with
      | false => rfl
      | true => rw [hi.sub j hc] at hj; cases hj
    have hH1 : Hist n L H1 := by
      refine ⟨fun f hf => ?_, fun f hf => ?_, fun f hf => ?_⟩
      · exact (s.come f hf).elim (hH.mem f) fun h => h.1
      · exact (s.come f hf).elim (hH.reads f) fun h x hx d hd hn => hR.read x hx f.x h.1 h.2.1 d hd hn
      · exact (s.come f hf).elim (hH.room f) fun h => h.2.2.2.2
    have hi1 : Inv P N n ops L Dl ρ₀ w₀ D1 T1 σ H1 listed a w ρ := by
      refine ⟨hi.le, hi.rel, hi.below, hi.size, hi.defers, hi.lsize, fun i h => s.mono i (hi.sub i h), fun i h => ?_, hi.closed, fun t => ?_, ⟨fun f hf => ?_, fun f hf k b hb => ?_, fun f hf k b hb hl => ?_, fun f hf g hg k b1 b2 hb1 hb2 => ?_⟩⟩
      · rcases s.new i h with h4 | ⟨f, h4, h5, _⟩
        · exact (hi.flo i h4).imp id fun ⟨f, h5, h6⟩ => ⟨f, s.keep f h5, h6⟩
        · exact .inr ⟨f, h4, h5⟩
      · rcases s.slot t with h4 | ⟨f, h4, h5, h6⟩
        · rcases hi.slots t with h5 | ⟨f, h5, h6⟩
          · left; unfold TRs at *; rw [h4]; exact h5
          · exact .inr ⟨f, s.keep f h5, h6⟩
        · exact .inr ⟨f, h4, h6, hunl _ h5⟩
      · rcases s.come f hf with h4 | h4
        · exact s.mono _ (hi.pend.inD f h4)
        · exact h4.2.2.2.1
      · rcases s.come f hf with h4 | h4
        · exact hi.pend.heap f h4 k b hb
        · rw [h4.2.2.1] at hb; cases hb
      · rcases s.come f hf with h4 | h4
        · exact hi.pend.unb f h4 k b hb hl
        · rw [h4.2.2.1] at hb; cases hb
      · rcases s.come f hf with h4 | h4
        · rcases s.come g hg with h5 | h5
          · exact hi.pend.inj f h4 g h5 k b1 b2 hb1 hb2
          · rw [h5.2.2.1] at hb2; cases hb2
        · rw [h4.2.2.1] at hb1; cases hb1
    have hhv : ∀ x ∈ hv, x ∈ L ∧ x.heavy = true ∧ D1.testBit x.i = false := fun x hx => (s.hvCome x hx).elim (fun h => by cases h) id
    rcases h3 with h3 | ⟨D', T', σ', H', h4, h5⟩
    · exact ⟨m, D1, T1, σ, H1, hv, ⟨hH1, recheck_spec h2, s.full, hhv⟩, h3, hi1⟩
    · obtain ⟨k1, k2⟩ := bornRun_sound hv h4 (fun x hx => ⟨(hhv x hx).1, by
        cases hc : listed.getD x.i false with
        | false => rfl
        | true => have := hi1.sub _ hc; rw [(hhv x hx).2.2] at this; cases this⟩) hH1 hi1
      exact ih h5 k1 k2

/-! ### Which are ready -/

theorem getD_true {listed : Array Bool} {i : Nat} (h : i < listed.size) : listed.getD i true = listed.getD i false := by
  simp [Array.getD, h]

theorem ready_mem {listed : Array Bool} (hs : listed.size = ops.size) {i : Nat} : i ∈ Region.ready .any ops listed ↔ ∃ o, ops[i]? = some o ∧ listed.getD i false = false ∧ ∀ e ∈ o.after, Region.binds .any e = true → listed.getD e.on false = true := by
  unfold Region.ready
  rw [List.mem_filter, List.mem_range]
  constructor
  · rintro ⟨h1, h2⟩
    rw [getD_true (by omega), Array.getElem?_eq_getElem h1] at h2
    simp only [Option.map_some, Option.getD_some, Bool.and_eq_true, Bool.not_eq_true', Array.all_eq_true_iff_forall_mem, Bool.or_eq_true] at h2
    refine ⟨ops[i], Array.getElem?_eq_getElem h1, h2.1, fun e he hb => ?_⟩
    rcases h2.2 e he with h3 | h3
    · rw [hb] at h3; cases h3
    · exact h3
  · rintro ⟨o, h1, h2, h3⟩
    have hlt := (Array.getElem?_eq_some_iff.mp h1).1
    refine ⟨hlt, ?_⟩
    rw [getD_true (by omega), h1]
    simp only [Option.map_some, Option.getD_some, Bool.and_eq_true, Bool.not_eq_true', Array.all_eq_true_iff_forall_mem, Bool.or_eq_true]
    refine ⟨h2, fun e he => ?_⟩
    cases hb : Region.binds .any e with
    | false => exact .inl rfl
    | true => exact .inr (h3 e he hb)

theorem none_ready {listed : Array Bool} (hs : listed.size = ops.size) (hL : LOk ops L) (hR : ROk L) (h : Region.ready .any ops listed = []) : ∀ i, i < ops.size → listed.getD i false = true := by
  intro i
  induction i using Nat.strongRecOn with
  | _ i ih =>
    intro hi
    cases hc : listed.getD i false with
    | true => rfl
    | false =>
      exfalso
      obtain ⟨x, h1, h2, h3⟩ := hL.get i ops[i] (Array.getElem?_eq_getElem hi)
      have : i ∈ Region.ready .any ops listed := (ready_mem hs).mpr ⟨ops[i], Array.getElem?_eq_getElem hi, hc, fun e he hb => by
        have := hR.back x (List.mem_of_getElem? h1) e (h3 ▸ he) hb
        exact ih e.on (by omega) (by omega)⟩
      rw [h] at this
      cases this

/-- How many are left. -/
def left (ops : Array Oper) (listed : Array Bool) : Nat := ((List.range ops.size).filter fun i => !listed.getD i false).length

theorem left_zero {listed : Array Bool} (h : left ops listed = 0) : ∀ i, i < ops.size → listed.getD i false = true := by
  intro i hi
  have h1 := List.length_eq_zero_iff.mp h
  rw [List.filter_eq_nil_iff] at h1
  have := h1 i (List.mem_range.mpr hi)
  simpa using this

theorem set_get {listed : Array Bool} {i j : Nat} (hi : i < listed.size) : (listed.setIfInBounds i true).getD j false = (decide (i = j) || listed.getD j false) := by
  rw [Array.getD_eq_getD_getElem?, Array.getD_eq_getD_getElem?, Array.getElem?_setIfInBounds]
  by_cases h : i = j
  · subst h; simp [hi]
  · simp [h]

theorem left_set {listed : Array Bool} (hs : listed.size = ops.size) {i : Nat} (hi : i < ops.size) (hu : listed.getD i false = false) : left ops (listed.setIfInBounds i true) < left ops listed := by
  unfold left
  have : (List.range ops.size).filter (fun j => !(listed.setIfInBounds i true).getD j false) = ((List.range ops.size).filter fun j => !listed.getD j false).filter fun j => !decide (i = j) := by
    rw [List.filter_filter]
    congr 1
    funext j
    rw [set_get (by omega)]
    cases decide (i = j) <;> cases listed.getD j false <;> rfl
  rw [this, List.length_filter_lt_length_iff_exists]
  exact ⟨i, List.mem_filter.mpr ⟨List.mem_range.mpr hi, by simp [hu]⟩, by simp⟩

theorem drawn_row {m : Nat} {k : Nat} {p : Pl} {cells : Tr Value} {len : Nat} {elem : TypeId} {cls pos : Nat} {c : Array Value} {fz : Nat × Nat} (h : RowRel ρ σ w k p cells len elem cls pos c fz) : RowRel ρ σ { w with drawn := m } k p cells len elem cls pos c fz :=
  ⟨h.at', h.size, h.within, h.holds, h.free, h.ends, h.base⟩

theorem drawn_rel {m : Nat} (h : Rel P N ρ σ w) : Rel P N ρ σ { w with drawn := m } := by
  refine ⟨h.dom, h.above, h.clsAbove, fun k p ob h1 h2 => ?_, h.sep, h.lone, h.glob, h.size⟩
  have := h.obj k p ob h1 h2
  cases ob with
  | row cells len elem cls pos =>
    obtain ⟨g1, c, fz, g2⟩ := this
    exact ⟨g1, c, fz, drawn_row g2⟩
  | map es clock => exact this
  | mapIter m since seen stepped => exact this
  | strIter s pos => exact this

theorem drawn_below {m : Nat} : Below N w { w with drawn := m } := ⟨rfl, rfl, rfl, Nat.le_refl _, fun _ _ => rfl⟩

/-! ### Every order -/

theorem draw_any {J : World → Prop} (hst : Stable N J) (hself : SelfOK P N J self) (hL : LOk ops L) (hR : ROk L) {Dl : List Value} {ρ₀ : Loc} {w₀ : World} (hJ : J w₀) {Tf : Tr Value} {σf : St}
    (hQ : ∀ (ρ' : Loc) (a' : Act) (w' : World), ρ₀.le ρ' → Rel P N ρ' σf w' → TFull ρ' n Tf Dl a' → Below N w₀ w' → Q .normal a' w') :
    ∀ (k : Nat) (listed : Array Bool), left ops listed ≤ k → ∀ {m D : Nat} {T : Tr Value} {σ : St} {H : List Flo} {hv : List RInfo} {ρ : Loc} {a : Act} {w : World}, Stage P n ops L σ D T H hv → Cont P self n ops L m D T σ H hv Tf σf →
      Inv P N n ops L Dl ρ₀ w₀ D T σ H listed a w ρ → wpAny P .any ops Q k listed a w := by
  have done : ∀ (listed : Array Bool) {m D : Nat} {T : Tr Value} {σ : St} {H : List Flo} {hv : List RInfo} {ρ : Loc} {a : Act} {w : World}, Stage P n ops L σ D T H hv → Cont P self n ops L m D T σ H hv Tf σf →
      Inv P N n ops L Dl ρ₀ w₀ D T σ H listed a w ρ → (∀ i, i < ops.size → listed.getD i false = true) → Q .normal a w := by
    intro listed m D T σ H hv ρ a w hS hC hI hall
    have hlt : ∀ x ∈ L, x.i < ops.size := fun x hx => by
      obtain ⟨k, hk⟩ := List.mem_iff_getElem?.mp hx
      obtain ⟨h1, h2, _⟩ := hL.mem k x hk
      rw [h1]
      exact (Array.getElem?_eq_some_iff.mp h2).1
    rcases hC with ⟨_, _, rfl, rfl⟩ | ⟨h, T', σ', h1, _, _⟩
    · refine hQ ρ a w hI.le hI.rel ⟨hI.size, hI.defers, fun t => ?_⟩ hI.below
      rcases hI.slots t with h1 | ⟨f, h1, _, h3⟩
      · exact h1
      · rw [hall _ (hlt _ (hS.hist.mem f h1))] at h3; cases h3
    · have := hS.heavies h (by rw [h1]; exact List.mem_cons_self)
      have h4 := hI.sub _ (hall _ (hlt _ this.1))
      rw [this.2.2] at h4; cases h4
  intro k
  induction k with
  | zero =>
    intro listed hk m D T σ H hv ρ a w hS hC hI
    have hall := left_zero (Nat.le_zero.mp hk)
    refine ⟨?_, done listed hS hC hI hall⟩
    cases hr : Region.ready .any ops listed with
    | nil => rfl
    | cons i r =>
      exfalso
      have hi : i ∈ Region.ready .any ops listed := by rw [hr]; exact List.mem_cons_self
      obtain ⟨o, h1, h2, _⟩ := (ready_mem hI.lsize).mp hi
      rw [hall i (Array.getElem?_eq_some_iff.mp h1).1] at h2
      cases h2
  | succ k ih =>
    intro listed hk m D T σ H hv ρ a w hS hC hI
    refine ⟨fun hr => done listed hS hC hI (none_ready hI.lsize hL hR hr), fun i hi => ?_⟩
    obtain ⟨o, ho, hu, he⟩ := (ready_mem hI.lsize).mp hi
    have hilt := (Array.getElem?_eq_some_iff.mp ho).1
    obtain ⟨x, hx1, hx2, hx3⟩ := hL.get i o ho
    have hxL := List.mem_of_getElem? hx1
    have hxn := (hL.mem i x hx1).2.2
    have hsame : ∀ y ∈ L, y.i = i → y = x := fun y hy e => by
      obtain ⟨j, hj⟩ := List.mem_iff_getElem?.mp hy
      have := (hL.mem j y hj).1
      have : j = i := by omega
      subst this
      rw [hx1] at hj
      cases hj
      rfl
    have hah : ∀ j, x.ahead.testBit j = true → listed.getD j false = true := fun j hj => by
      obtain ⟨e, h1, h2, h3⟩ := hL.ahead x hxL j hj
      have h4 := he e (hx3 ▸ h1) h2
      rcases h3 with h3 | ⟨y, h5, h6, h7⟩
      · rw [← h3]; exact h4
      · exact hI.closed y h5 (by rw [h6]; exact h4) j h7
    have hread : ∀ d ∈ x.names, TRs ρ T a d := fun d hd => by
      rcases hI.slots d with h1 | ⟨f, h1, h2, h3⟩
      · exact h1
      · have := hah _ (hS.hist.reads f h1 x hxL d h2 hd)
        rw [this] at h3; cases h3
    rw [hxn, hx3] at hread
    have hops : ∀ z ∈ o.op.operands, ∀ s, z = .tmp s → TRs ρ T a s := fun z hz s e => hread s (namesOf_tmp (e ▸ hz))
    have hgs : ∀ j want g d, o.guard = some (j, want) → ops[j]? = some g → g.dst = some d → TRs ρ T a d := fun j want g d h1 h2 h3 => hread d (namesOf_guard h1 h2 h3)
    have hlt' : i < listed.size := by rw [hI.lsize]; exact hilt
    have hleft : left ops (listed.setIfInBounds i true) ≤ k := by
      have := left_set hI.lsize hilt hu
      omega
    have hclosed : ∀ y ∈ L, (listed.setIfInBounds i true).getD y.i false = true → ∀ j, y.ahead.testBit j = true → (listed.setIfInBounds i true).getD j false = true := fun y hy hyl j hj => by
      rw [set_get hlt', Bool.or_eq_true] at hyl ⊢
      right
      rcases hyl with h1 | h1
      · have := hsame y hy (of_decide_eq_true h1).symm
        subst this
        exact hah j hj
      · exact hI.closed y hy h1 j hj
    cases hD : D.testBit i with
    | true =>
      rcases hI.flo i hD with h1 | ⟨f, hf1, hf2⟩
      · rw [hu] at h1; cases h1
      have hfx := hsame f.x (hS.hist.mem f hf1) hf2
      have hvals := hS.vals f hf1
      unfold FloOk at hvals
      obtain ⟨hv1, hv2⟩ := hvals
      rw [hfx, hx3] at hv1 hv2
      have hroom := hS.hist.room f hf1
      rw [hfx, hx3] at hroom
      have hgo : ∀ (ρ' : Loc) (v' : Value) (w' : World), ρ.le ρ' → (∀ g ∈ H, ∀ k b, g.born = some (k, b) → g.x.i ≠ i → ρ' k = ρ k) → Rel P N ρ' σ w' → Below N w w' → VRel ρ' f.v v' → wpAny P .any ops Q k (listed.setIfInBounds i true) (a.put o.dst v') w' := by
        intro ρ' v' w' q1 q2 q3 q4 hv'
        refine ih _ hleft hS hC ⟨Loc.le_trans hI.le q1, q3, hI.below.trans q4, by rw [put_size]; exact hI.size, by rw [put_defers]; exact hI.defers.mono q1, by rw [Array.size_setIfInBounds]; exact hI.lsize, fun j hj => ?_, fun j hj => ?_, hclosed, fun t => ?_, ⟨hI.pend.inD, hI.pend.heap, fun g hg k b hb hl => ?_, hI.pend.inj⟩⟩
        · rw [set_get hlt', Bool.or_eq_true] at hj
          rcases hj with h1 | h1
          · rw [← of_decide_eq_true h1]; exact hD
          · exact hI.sub j h1
        · rw [set_get hlt']
          rcases hI.flo j hj with h1 | h1
          · left; rw [h1, Bool.or_true]
          · exact .inr h1
        · by_cases hdt : o.dst = some t
          · left
            rw [hdt]
            refine put_same hI.size (hroom t hdt) ?_
            rw [hv2 t hdt]
            exact hv'
          · rcases hI.slots t with h1 | ⟨g, h1, h2, h3⟩
            · exact .inl ((put_other hdt h1).mono q1)
            · refine .inr ⟨g, h1, h2, ?_⟩
              rw [set_get hlt', h3, Bool.or_false]
              refine decide_eq_false fun e => hdt ?_
              have := hsame g.x (hS.hist.mem g h1) e.symm
              rw [this, hx3] at h2
              exact h2
        · rw [set_get hlt', Bool.or_eq_false_iff] at hl
          rw [q2 g hg k b hb fun e => by rw [e] at hl; simp at hl]
          exact hI.pend.unb g hg k b hb hl.2
      cases hfb : f.born with
      | none =>
        rw [hfb] at hv1
        exact float_sound hv1 hI.rel hops hgs ho fun v' hv' => hgo ρ v' w (Loc.le_refl _) (fun _ _ _ _ _ _ => rfl) hI.rel (Below.refl _ _) hv'
      | some kb =>
        obtain ⟨kf, bf⟩ := kb
        rw [hfb] at hv1
        obtain ⟨mk, hm1, hm2⟩ := hv1
        obtain ⟨hh0, hc0⟩ := hI.pend.heap f hf1 kf bf hfb
        refine born_sound hm1 hI.rel (hI.pend.unb f hf1 kf bf hfb (by rw [hf2]; exact hu)) hh0 hc0 hops hgs ho fun ρ' v' w' q1 q2 q3 q4 q5 => hgo ρ' v' w' q1 (fun g hg k b hb hne => ?_) q3 q4 (by rw [hm2]; exact q5)
        refine q2 k fun e => hne ?_
        subst e
        rw [← hf2]
        exact hI.pend.inj g hg f hf1 k b bf hb hfb
    | false =>
      have hxh := hS.full x hxL (by rw [hx2]; exact hD) fun e h1 h2 => hI.sub _ (he e (hx3 ▸ h1) h2)
      rcases hC with ⟨h1, _⟩ | ⟨h, T', σ', h1, hnb, h2, h3⟩
      · rw [h1] at hxh; cases hxh
      rw [h1] at hxh
      have hxe : x = h := by simpa using hxh
      subst hxe
      rw [hx3] at h2
      rw [hx2] at h3
      refine opRun_sound hself h2 hI.rel (hst _ _ hI.below hJ) hops hgs ho fun ρ' v v' w' g1 g2 g3 g4 g5 => ?_
      have hin : Inv P N n ops L Dl ρ₀ w₀ (Nat.lor D (2 ^ i)) T' σ' (keepFlo x H) (listed.setIfInBounds i true) (a.put o.dst v') w' ρ' := by
        refine ⟨Loc.le_trans hI.le g1, g2, hI.below.trans g3, by rw [put_size]; exact hI.size, by rw [put_defers]; exact hI.defers.mono g1, by rw [Array.size_setIfInBounds]; exact hI.lsize, fun j hj => ?_, fun j hj => ?_, hclosed, fun t => ?_, ⟨fun f hf => ?_, fun f hf k b hb => ?_, fun f hf k b hb => ?_, fun f hf g hg k b1 b2 hb1 hb2 => ?_⟩⟩
        · rw [set_get hlt', Bool.or_eq_true] at hj
          rw [lor_bit, Bool.or_eq_true]
          rcases hj with h4 | h4
          · exact .inr h4
          · exact .inl (hI.sub j h4)
        · rw [lor_bit, Bool.or_eq_true] at hj
          rw [set_get hlt']
          rcases hj with h4 | h4
          · rcases hI.flo j h4 with h5 | ⟨f, h5, h6⟩
            · left; rw [h5, Bool.or_true]
            · cases hb : x.ahead.testBit f.x.i with
              | true => left; rw [← h6, hah _ hb, Bool.or_true]
              | false => exact .inr ⟨f, keepFlo_mem.mpr ⟨h5, hb⟩, h6⟩
          · left; rw [h4]; rfl
        · rcases hI.slots t with h4 | ⟨f, h4, h5, h6⟩
          · exact .inl (put_slot hI.size g4 g5 (.inr (h4.mono g1)))
          · refine .inr ⟨f, keepFlo_mem.mpr ⟨h4, ?_⟩, h5, ?_⟩
            · cases hb : x.ahead.testBit f.x.i with
              | true => rw [hah _ hb] at h6; cases h6
              | false => rfl
            · rw [set_get hlt', h6, Bool.or_false]
              refine decide_eq_false fun e => ?_
              have h7 := hI.pend.inD f h4
              rw [← e, hD] at h7
              cases h7
        · rw [lor_bit, hI.pend.inD f (keepFlo_mem.mp hf).1]; rfl
        · rw [noBorn_spec hnb f hf] at hb; cases hb
        · rw [noBorn_spec hnb f hf] at hb; cases hb
        · rw [noBorn_spec hnb f hf] at hb1; cases hb1
      have hH : Hist n L (keepFlo x H) := ⟨fun f hf => hS.hist.mem f (keepFlo_mem.mp hf).1, fun f hf => hS.hist.reads f (keepFlo_mem.mp hf).1, fun f hf => hS.hist.room f (keepFlo_mem.mp hf).1⟩
      obtain ⟨m', D1, T1, σ1, H1, hv1, k1, k2, k3⟩ := enter hL hR _ h3 hH hin
      exact ih _ hleft k1 k2 k3

theorem draw_sound (hm : P.follows .mixedOrders = true) {J : World → Prop} (hst : Stable N J) (hself : SelfOK P N J self) {m : Nat} {Tf : Tr Value} {σf : St} (hok : regionOk (infosOf ops) = true) (h : drawRun P self n ops (infosOf ops) m 0 T σ [] = some (Tf, σf))
    {Dl : List Value} (hr : Rel P N ρ σ w) (hJ : J w) (hT : TFull ρ n T Dl a)
    (hQ : ∀ (ρ' : Loc) (a' : Act) (w' : World), ρ.le ρ' → Rel P N ρ' σf w' → TFull ρ' n Tf Dl a' → Below N w w' → Q .normal a' w') (id : Nat) : (Code.region id ops true).wp P Q a w := by
  refine wp_region_any hm ?_
  have hfalse : ∀ i, (Array.replicate ops.size false).getD i false = false := fun i => by
    rw [Array.getD_eq_getD_getElem?, Array.getElem?_replicate]
    split <;> rfl
  have hin : Inv P N n ops (infosOf ops) Dl ρ w 0 T σ [] (Array.replicate ops.size false) a { w with drawn := w.drawn + 1 } ρ :=
    ⟨Loc.le_refl _, drawn_rel hr, drawn_below, hT.size, hT.defers, Array.size_replicate, fun i h => absurd h (by rw [hfalse]; decide), fun i h => absurd h (by simp), fun x _ h => absurd h (by rw [hfalse]; decide), fun t => .inl (hT.slots t), ⟨fun _ h => absurd h (by simp), fun _ h => absurd h (by simp), fun _ h => absurd h (by simp), fun _ h => absurd h (by simp)⟩⟩
  obtain ⟨m', D1, T1, σ1, H1, hv1, k1, k2, k3⟩ := enter (infosOf_ok ops) (regionOk_spec hok) _ h ⟨fun _ h => absurd h (by simp), fun _ h => absurd h (by simp), fun _ h => absurd h (by simp)⟩ hin
  refine draw_any hst hself (infosOf_ok ops) (regionOk_spec hok) hJ hQ ops.size _ ?_ k1 k2 k3
  unfold left
  exact Nat.le_trans (List.length_filter_le _ _) (by simp)

end
end Go.Ke
