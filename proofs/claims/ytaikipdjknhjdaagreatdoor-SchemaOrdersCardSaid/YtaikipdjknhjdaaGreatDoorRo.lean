/- A state of the abstract run whose blocks all lie in the world already, and are only read. No condition. -/
import Derived.Test.YtaikipdjknhjdaaGreatDoorKeR
namespace Go.Ke
open Go.RowKit (Below)


/-- What the abstract run sees of it. -/
structure RoA where
  elem : TypeId
  len : Nat
  cells : Tr Value

noncomputable def roObjs (l : List RoA) : Nat → List AObj :=
  @List.rec RoA (fun _ => Nat → List AObj) (fun _ => []) (fun x _ ih i => .row x.cells x.len x.elem i 0 :: ih (Nat.succ i)) l

noncomputable def roClss (l : List RoA) : Nat → List ACls :=
  @List.rec RoA (fun _ => Nat → List ACls) (fun _ => []) (fun x _ ih i => { stack := [(i, x.len)], lo := 0, hi := 0, tail := false, ro := true } :: ih (Nat.succ i)) l

noncomputable def roSt (l : List RoA) : St := { heap := fillTr (roObjs l 0) 0 .nil, next := l.length, cls := fillTr (roClss l 0) 0 .nil, G := 0, dfr := [] }

theorem roObjs_get : ∀ (l : List RoA) (i k : Nat), (roObjs l i)[k]? = (l[k]?).map fun x => .row x.cells x.len x.elem (i + k) 0 := by
  intro l
  induction l with
  | nil => intro i k; rfl
  | cons x l ih =>
    intro i k
    cases k with
    | zero => rfl
    | succ k =>
      show (roObjs l (i + 1))[k]? = _
      rw [ih]
      simp only [List.getElem?_cons_succ, Nat.add_assoc, Nat.add_comm 1 k]

theorem roClss_get : ∀ (l : List RoA) (i k : Nat), (roClss l i)[k]? = (l[k]?).map fun x => { stack := [(i + k, x.len)], lo := 0, hi := 0, tail := false, ro := true } := by
  intro l
  induction l with
  | nil => intro i k; rfl
  | cons x l ih =>
    intro i k
    cases k with
    | zero => rfl
    | succ k =>
      show (roClss l (i + 1))[k]? = _
      rw [ih]
      simp only [List.getElem?_cons_succ, Nat.add_assoc, Nat.add_comm 1 k]

theorem roObjs_len : ∀ (l : List RoA) (i : Nat), (roObjs l i).length = l.length := by
  intro l
  induction l with
  | nil => intro i; rfl
  | cons x l ih => intro i; show (roObjs l (i + 1)).length + 1 = _; rw [ih]; rfl
theorem roClss_len : ∀ (l : List RoA) (i : Nat), (roClss l i).length = l.length := by
  intro l
  induction l with
  | nil => intro i; rfl
  | cons x l ih => intro i; show (roClss l (i + 1)).length + 1 = _; rw [ih]; rfl

theorem roSt_heap (l : List RoA) (k : Nat) : (roSt l).heap.get k = (l[k]?).map fun x => .row x.cells x.len x.elem k 0 := by
  show (fillTr (roObjs l 0) 0 .nil).get k = _
  rw [get_fillTr, roObjs_len]
  by_cases h : k < l.length
  · rw [if_pos ⟨Nat.zero_le _, by omega⟩, Nat.sub_zero, roObjs_get, Nat.zero_add]
  · rw [if_neg (by omega), Tr.get_nil, List.getElem?_eq_none (by omega)]
    rfl

theorem roSt_cls (l : List RoA) (k : Nat) : (roSt l).cls.get k = (l[k]?).map fun x => { stack := [(k, x.len)], lo := 0, hi := 0, tail := false, ro := true } := by
  show (fillTr (roClss l 0) 0 .nil).get k = _
  rw [get_fillTr, roClss_len]
  by_cases h : k < l.length
  · rw [if_pos ⟨Nat.zero_le _, by omega⟩, Nat.sub_zero, roClss_get, Nat.zero_add]
  · rw [if_neg (by omega), Tr.get_nil, List.getElem?_eq_none (by omega)]
    rfl

/-- Where the blocks lie. -/
structure RoAt (P : Program) (l : List RoA) (bs : List Nat) (ρ : Loc) (w : World) : Prop where
  len : bs.length = l.length
  none : ∀ k, l.length ≤ k → ρ k = Option.none
  row : ∀ k x b, l[k]? = some x → bs[k]? = some b → ∃ c fz, w.heap[b]? = some (.cells c x.elem fz) ∧ x.len ≤ c.size ∧ ρ k = some ⟨b, 0, c.size, P.cellsOf x.elem⟩ ∧ ∀ i v, i < x.len → x.cells.get i = some v → ∃ v', c[i]? = some v' ∧ VRel ρ v v'
  inj : ∀ (k k' b : Nat), bs[k]? = some b → bs[k']? = some b → k = k'

theorem roSt_frozen {l : List RoA} {k : Nat} (h : k < l.length) (i : Nat) : (roSt l).maybeFrozen k i := by
  refine ⟨{ stack := [(k, l[k].len)], lo := 0, hi := 0, tail := false, ro := true }, ?_, .inl rfl⟩
  rw [roSt_cls, List.getElem?_eq_getElem h]
  rfl

theorem ro_rel {P : Program} {l : List RoA} {bs : List Nat} {ρ : Loc} {w : World} (h : RoAt P l bs ρ w) : Rel P w.heap.size ρ (roSt l) w := by
  have hk : ∀ k p, ρ k = some p → ∃ x b, l[k]? = some x ∧ bs[k]? = some b ∧ k < l.length := fun k p hp => by
    by_cases hlt : k < l.length
    · exact ⟨l[k], bs[k]'(by rw [h.len]; exact hlt), List.getElem?_eq_getElem hlt, List.getElem?_eq_getElem _, hlt⟩
    · rw [h.none k (by omega)] at hp; cases hp
  have hob : ∀ k ob, (roSt l).heap.get k = some ob → ∃ x, l[k]? = some x ∧ ob = .row x.cells x.len x.elem k 0 := fun k ob ho => by
    rw [roSt_heap] at ho
    cases hx : l[k]? with
    | none => rw [hx] at ho; cases ho
    | some x => rw [hx] at ho; cases ho; exact ⟨x, rfl, rfl⟩
  refine ⟨fun k p hp => ?_, fun k ob ho => ?_, fun c x hx => ?_, fun k p ob hp ho => ?_, fun k k' p p' o1 o2 hp hp' hbb ho ho' => ?_, fun k k' o1 o2 ho ho' hc _ => ?_, fun g hg => absurd hg (Nat.not_lt_zero g), Nat.le_refl _⟩
  · obtain ⟨x, b, h1, h2, h3⟩ := hk k p hp
    obtain ⟨c, fz, g1, g2, g3, g4⟩ := h.row k x b h1 h2
    rw [g3] at hp
    cases hp
    exact ⟨(Array.getElem?_eq_some_iff.mp g1).1, .row x.cells x.len x.elem k 0, by rw [roSt_heap, h1]; rfl, .inr fun i => roSt_frozen h3 i⟩
  · obtain ⟨x, h1, rfl⟩ := hob k ob ho
    have := (List.getElem?_eq_some_iff.mp h1).1
    exact ⟨this, this⟩
  · rw [roSt_cls] at hx
    cases hl : l[c]? with
    | none => rw [hl] at hx; cases hx
    | some y =>
      rw [hl] at hx
      cases hx
      have hlt := (List.getElem?_eq_some_iff.mp hl).1
      refine ⟨hlt, fun k e hm => ?_⟩
      simp only [List.mem_singleton, Prod.mk.injEq] at hm
      rw [hm.1]
      exact hlt
  · obtain ⟨x, b, h1, h2, h3⟩ := hk k p hp
    obtain ⟨y, h4, rfl⟩ := hob k ob ho
    rw [h1] at h4
    cases h4
    obtain ⟨c, fz, g1, g2, g3, g4⟩ := h.row k x b h1 h2
    rw [g3] at hp
    cases hp
    refine ⟨rfl, c, fz, ⟨g1, rfl, Nat.zero_le _, fun _ => ⟨by simpa using g2, fun i v hi hv => ?_⟩, fun i hi hn => absurd (roSt_frozen h3 _) hn, fun z hz e hm => ?_, fun _ => rfl⟩⟩
    · obtain ⟨v', k1, k2⟩ := g4 i v hi hv
      exact ⟨v', by simpa using k1, k2⟩
    · rw [roSt_cls, h1] at hz
      cases hz
      simp only [List.mem_singleton, Prod.mk.injEq] at hm
      rw [hm.2]
      simp
  · obtain ⟨x, b, h1, h2, h3⟩ := hk k p hp
    obtain ⟨x', b', h1', h2', h3'⟩ := hk k' p' hp'
    obtain ⟨c, fz, g1, g2, g3, g4⟩ := h.row k x b h1 h2
    obtain ⟨c', fz', g1', g2', g3', g4'⟩ := h.row k' x' b' h1' h2'
    rw [g3] at hp
    rw [g3'] at hp'
    cases hp
    cases hp'
    simp only at hbb
    subst hbb
    have := h.inj k k' b h2 h2'
    subst this
    rw [ho] at ho'
    cases ho'
    exact ⟨rfl, rfl⟩
  · obtain ⟨x, _, rfl⟩ := hob k o1 ho
    obtain ⟨x', _, rfl⟩ := hob k' o2 ho'
    exact hc

/-- A call that only reads: what it hands back. -/
theorem ro_calls {P : Program} [Quiet] [QuietOK P] (hm : P.follows .mixedOrders = true) (hng : Named P) {l : List RoA} {bs : List Nat} {ρ : Loc} {w : World} (h : RoAt P l bs ρ w) {f : FuncId} {args args' : List Value} {fuel : Nat} {v : Value} {σ' : St}
    (hrun : callRun P (fun _ _ _ => none) (fun _ _ => false) (codeRun P (fun _ _ _ => none) (fun _ _ => false) fuel) f args (roSt l) = some (v, σ')) (hv : plainV v = true) (ha : LRel ρ args args') :
    Calls P f args'.toArray w fun e w' => e = .returned v ∧ Below w.heap.size w w' := by
  have hst : Stable w.heap.size fun _ => True := fun _ _ _ _ => trivial
  obtain ⟨_, h2⟩ := call_sound (X := fun _ _ _ => none) hst hng noDefer (code_ok hst hm hng noDefer noSumm fuel) hrun rfl (ro_rel h) trivial ha
  refine h2.mono ?_
  rintro e w' ⟨v', ρ', rfl, _, g2, _, g4⟩
  rw [plainV_eq g2 hv]
  exact ⟨rfl, g4⟩

/-- The mapping of the blocks. -/
def roLoc (P : Program) (l : List RoA) (bs : List Nat) (w : World) : Loc := fun k => match l[k]?, bs[k]? with
  | some x, some b => match w.heap[b]? with
    | some (.cells c _ _) => some ⟨b, 0, c.size, P.cellsOf x.elem⟩
    | _ => none
  | _, _ => none

theorem roLoc_row {P : Program} {l : List RoA} {bs : List Nat} {w : World} {k b : Nat} {x : RoA} {c : Array Value} {e : TypeId} {fz : Nat × Nat} (h1 : l[k]? = some x) (h2 : bs[k]? = some b) (h3 : w.heap[b]? = some (.cells c e fz)) :
    roLoc P l bs w k = some ⟨b, 0, c.size, P.cellsOf x.elem⟩ := by
  unfold roLoc
  rw [h1, h2]
  simp only [h3]

theorem ro_at {P : Program} {l : List RoA} {bs : List Nat} {w : World} (hl : bs.length = l.length) (hi : ∀ (k k' b : Nat), bs[k]? = some b → bs[k']? = some b → k = k')
    (hrow : ∀ (k : Nat) (x : RoA) (b : Nat), l[k]? = some x → bs[k]? = some b → ∃ c fz, w.heap[b]? = some (.cells c x.elem fz) ∧ x.len ≤ c.size ∧ ∀ i v, i < x.len → x.cells.get i = some v → ∃ v', c[i]? = some v' ∧ VRel (roLoc P l bs w) v v') :
    RoAt P l bs (roLoc P l bs w) w := by
  refine ⟨hl, fun k hk => ?_, fun k x b h1 h2 => ?_, hi⟩
  · unfold roLoc
    rw [List.getElem?_eq_none hk]
  · obtain ⟨c, fz, g1, g2, g3⟩ := hrow k x b h1 h2
    exact ⟨c, fz, g1, g2, roLoc_row h1 h2 g1, g3⟩

/-- A slice over a block. -/
theorem slice_rel {ρ : Loc} {k b len cap n sz : Nat} (h : ρ k = some ⟨b, 0, n, sz⟩) (hl : len ≤ cap) (hs : cap * sz ≤ n) : VRel ρ (.slice (some ⟨k, 0, none⟩) len unk) (.slice (some ⟨b, 0, none⟩) len cap) :=
  .slice k 0 len unk _ 0 cap h hl (.inr rfl) (fun h => absurd h (Nat.lt_irrefl _)) fun _ => .inr (by simpa using hs)

/-- A slice of a known capacity. -/
theorem slice_rel' {ρ : Loc} {k b len cap n sz : Nat} (h : ρ k = some ⟨b, 0, n, sz⟩) (hl : len ≤ cap) (hu : cap < unk) : VRel ρ (.slice (some ⟨k, 0, none⟩) len cap) (.slice (some ⟨b, 0, none⟩) len cap) :=
  .slice k 0 len cap _ 0 cap h hl (.inr rfl) (fun _ => rfl) fun h => absurd h (by omega)

end Go.Ke
