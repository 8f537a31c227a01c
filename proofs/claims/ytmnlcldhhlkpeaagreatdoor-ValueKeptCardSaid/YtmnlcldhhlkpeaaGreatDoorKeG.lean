/- Each operation of the abstract run, against the model's: equality, keys, and the rest of what changes nothing. No condition. -/
import Derived.Test.YtmnlcldhhlkpeaaGreatDoorKeF
import Derived.Laws.StructEq
import Derived.LaidEql
namespace Go.Ke
open Go.RowKit (Below)

section
variable {P : Program} {N : Nat} {ρ : Loc} {σ : St} {w : World} {T : Tr Value} {a : Act}

/-! ### Equality by cells -/

theorem keyKind_spec {t : TypeId} {d : TypeDesc} (h : keyKind P t = some d) : P.underlying t = some d ∧ (d = .bool ∨ (∃ k, d = .int k) ∨ d = .string) := by
  unfold keyKind at h
  split at h <;> first | (cases h; rename_i hu; exact ⟨hu, by simp⟩) | cases h

theorem list_beq (a b : ByteArray) : (a.data.toList == b.data.toList) = (a == b) := by
  rw [beq_toListBytes, ByteArray.toList_eq, ByteArray.toList_eq]

theorem same1_sound {t : TypeId} {d : TypeDesc} (hu : P.underlying t = some d) {x y x' y' : Value} {r : Bool} (h : same1 d x y = some r) (hx : VRel ρ x x') (hy : VRel ρ y y') (n : Nat) (w : World) :
    (Op.equalIn (n + 1) t x' y').run P w = .ok r w ∧ (Instr.sameNow d x' y' = some r) := by
  unfold same1 at h
  split at h
  · cases h; cases hx; cases hy
    exact ⟨run_equalIn_bool w n t _ _ hu, rfl⟩
  · split at h
    · rename_i hk
      cases h; cases hx; cases hy
      obtain rfl := of_decide_eq_true hk
      exact ⟨run_equalIn_int w n t _ _ _ _ hu, by simp [Instr.sameNow]⟩
    · cases h
  · cases h; cases hx; cases hy
    rename_i s s'
    refine ⟨?_, ?_⟩
    · rw [run_equalIn_string w n t _ _ hu, ByteArray.toList_eq, ByteArray.toList_eq]
    · simp only [Instr.sameNow, list_beq]
  · cases h

theorem eqCells_cons (f : Field) (l : List Field) (i : Nat) (xs ys : List Value) : eqCells P (f :: l) i xs ys = match keyKind P f.type, Nat.beq f.offset i && (f.name != "_"), xs, ys with
    | some d, true, x :: xs, y :: ys => match same1 d x y with
      | some true => eqCells P l (i + 1) xs ys
      | some false => some false
      | none => none
    | _, _, _, _ => none := rfl

theorem part_cell {t : TypeId} {d : TypeDesc} (hu : P.underlying t = some d) (hd : d = .bool ∨ (∃ k, d = .int k) ∨ d = .string) {cs : Array Value} {i : Nat} {v : Value} (hc : cs[i]? = some v) (w : World) : (part t cs i).run P w = .ok v w := by
  unfold part
  have hagg : isAggB P t = false := by
    unfold isAggB
    rw [hu]
    rcases hd with rfl | ⟨k, rfl⟩ | rfl <;> rfl
  simp only [Sem.run_bind, run_agg hu, hagg, Result.andThen_ok, Bool.false_eq_true, if_false, hc]
  rfl

theorem eqCells_sound (n : Nat) (w : World) : ∀ (l : List Field) (i : Nat) (xs ys : List Value) (cx cy : Array Value) {r : Bool}, eqCells P l i xs ys = some r →
    (∀ (j : Nat) x, xs[j]? = some x → ∃ x', cx[i + j]? = some x' ∧ VRel ρ x x') → (∀ (j : Nat) y, ys[j]? = some y → ∃ y', cy[i + j]? = some y' ∧ VRel ρ y y') →
    (Op.eqFields (n + 1) cx cy l).run P w = .ok r w := by
  intro l
  induction l with
  | nil => intro i xs ys cx cy r h _ _; cases h; rfl
  | cons f l ih =>
    intro i xs ys cx cy r h hx hy
    rw [eqCells_cons] at h
    split at h
    · rename_i d x xs y ys hk hc
      simp only [Bool.and_eq_true] at hc
      obtain ⟨hoff, hname⟩ := hc
      have hoff := Nat.eq_of_beq_eq_true hoff
      obtain ⟨hu, hd⟩ := keyKind_spec hk
      obtain ⟨x', hx', hxr⟩ := hx 0 x (by simp)
      obtain ⟨y', hy', hyr⟩ := hy 0 y (by simp)
      have hname' : f.name ≠ "_" := by simpa using hname
      have px := part_cell hu hd (cs := cx) (i := f.offset) (v := x') (by rw [hoff]; simpa using hx') w
      have py := part_cell hu hd (cs := cy) (i := f.offset) (v := y') (by rw [hoff]; simpa using hy') w
      rw [Op.eqFields, if_pos hname']
      split at h
      · rename_i hs
        simp only [Sem.run_bind, px, py, Result.andThen_ok, (same1_sound hu hs hxr hyr n w).1, Bool.not_true, Bool.false_eq_true, if_false]
        exact ih (i + 1) xs ys cx cy h (fun j u hj => by
          obtain ⟨u', h1, h2⟩ := hx (j + 1) u (by simpa using hj)
          exact ⟨u', by rw [show i + 1 + j = i + (j + 1) by omega]; exact h1, h2⟩) (fun j u hj => by
          obtain ⟨u', h1, h2⟩ := hy (j + 1) u (by simpa using hj)
          exact ⟨u', by rw [show i + 1 + j = i + (j + 1) by omega]; exact h1, h2⟩)
      · rename_i hs
        cases h
        simp only [Sem.run_bind, px, py, Result.andThen_ok, (same1_sound hu hs hxr hyr n w).1, Bool.not_false, if_true, Sem.run_pure]
      · cases h
    · cases h

theorem rel_cells {xs ys : Array Value} (hs : xs.size = ys.size) (hc : ∀ i (h : i < xs.size) (h' : i < ys.size), VRel ρ xs[i] ys[i]) : ∀ (j : Nat) x, xs.toList[j]? = some x → ∃ x', ys[0 + j]? = some x' ∧ VRel ρ x x' := fun j x hj => by
  obtain ⟨y, hy, hr⟩ := (LRel.of_array hs hc).get j x hj
  exact ⟨y, by simpa using hy, hr⟩

theorem keyEq_sound {t : TypeId} {x y x' y' : Value} {r : Bool} (h : keyEq P t x y = some r) (hx : VRel ρ x x') (hy : VRel ρ y y') (w : World) :
    (Op.equal t x' y').run P w = .ok r w ∧ ∀ d, P.underlying t = some d → (Instr.sameNow d x' y' = some r ∨ Instr.sameNow d x' y' = none) := by
  have heq : Op.equal t x' y' = Op.equalIn (9999 + 1) t x' y' := rfl
  unfold keyEq at h
  split at h
  · rename_i hu
    obtain ⟨h1, h2⟩ := same1_sound hu h hx hy 9999 w
    exact ⟨by rw [heq]; exact h1, fun d hd => by rw [hu] at hd; cases hd; exact .inl h2⟩
  · rename_i hu
    obtain ⟨h1, h2⟩ := same1_sound hu h hx hy 9999 w
    exact ⟨by rw [heq]; exact h1, fun d hd => by rw [hu] at hd; cases hd; exact .inl h2⟩
  · rename_i hu
    obtain ⟨h1, h2⟩ := same1_sound hu h hx hy 9999 w
    exact ⟨by rw [heq]; exact h1, fun d hd => by rw [hu] at hd; cases hd; exact .inl h2⟩
  · rename_i fs hu
    split at h
    · rename_i xs ys
      split at h
      · rename_i hst
        cases hx with
        | agg _ xs' hs hc =>
          cases hy with
          | agg _ ys' hs' hc' =>
            refine ⟨?_, fun d hd => by rw [hu] at hd; cases hd; exact .inr rfl⟩
            have hf : P.fieldsOf t = fs := by unfold Program.fieldsOf; rw [hu]
            rw [heq, run_equalIn_struct w 9999 t xs' ys' (by rw [hu, hf]) hst, hf]
            exact eqCells_sound (ρ := ρ) 9998 w fs.toList 0 xs.toList ys.toList xs' ys' h (rel_cells hs hc) (rel_cells hs' hc')
      · cases h
    · cases h
  · cases h

/-! ### Binary operations -/

theorem intBin_sound {op : BinOp} {k : IntKind} {x y : Int} {v : Value} (h : intBin op k x y = some v) (t : TypeId) (w : World) : (binOp op t (.int k x) (.int k y)).run P w = .ok v w ∧ plain1 v = true := by
  unfold intBin at h
  split at h <;> first | (cases h; refine ⟨?_, rfl⟩; simp [binOp, Op.intArith, Op.intCmp]; done) | cases h

theorem eqGuard_int (op : BinOp) (t : TypeId) (x y : Operand) (k k' : IntKind) (m n : Int) (w : World) : (eqGuard op t x y (.int k m) (.int k' n)).run P w = .ok () w := by
  cases op <;> rfl

theorem nilEq_sound {t : TypeId} {d : TypeDesc} (hu : P.underlying t = some d) {x y x' y' : Value} {r : Bool} (h : nilEq d x y = some r) (hx : VRel ρ x x') (hy : VRel ρ y y') (w : World) (o1 o2 : Operand) (op : BinOp) :
    (eqGuard op t o1 o2 x' y').run P w = .ok () w ∧ (binOp .eql t x' y').run P w = .ok (.bool r) w ∧ (binOp .neq t x' y').run P w = .ok (.bool (!r)) w := by
  have fin : (∀ n, (Op.equalIn (n + 1) t x' y').run P w = .ok r w) → (Op.equal t x' y').run P w = .ok r w := fun h => h 9999
  unfold nilEq at h
  split at h <;> first
    | (cases h; done)
    | (cases h
       cases hx <;> cases hy <;>
        (have he := fin (fun n => by simp only [Op.equalIn, Sem.run_bind, run_underlying hu, Result.andThen_ok]; rfl)
         refine ⟨by cases op <;> rfl, ?_, ?_⟩ <;> simp only [binOp, Sem.run_bind, he, Result.andThen_ok, Sem.run_pure]))

theorem samePtr_sound {t : TypeId} {d : TypeDesc} (hu : P.underlying t = some d) {p q : Addr} {x' y' : Value} (h : samePtr P d p q = true) (hx : VRel ρ (.pointer (some p)) x') (hy : VRel ρ (.pointer (some q)) y') (w : World) (o1 o2 : Operand) (op : BinOp) :
    (eqGuard op t o1 o2 x' y').run P w = .ok () w ∧ (binOp .eql t x' y').run P w = .ok (.bool true) w ∧ (binOp .neq t x' y').run P w = .ok (.bool false) w := by
  unfold samePtr at h
  split at h
  · rename_i e
    rw [Bool.and_eq_true] at h
    obtain ⟨h1, h2⟩ := h
    obtain rfl := of_decide_eq_true h2
    obtain ⟨j, hj⟩ := Option.isSome_iff_exists.mp h1
    cases hx with
    | ptr k off a ha =>
      cases hy with
      | ptr _ _ b hb =>
        rw [ha] at hb
        cases hb
        have he : (Op.equal t (.pointer (some ⟨a.b, a.o + off, none⟩)) (.pointer (some ⟨a.b, a.o + off, none⟩))).run P w = .ok true w := by
          have h : ∀ n : Nat, (Op.equalIn (n + 1) t (.pointer (some ⟨a.b, a.o + off, none⟩)) (.pointer (some ⟨a.b, a.o + off, none⟩))).run P w = .ok true w := fun n => by
            simp [Op.equalIn, run_underlying hu, sizeOf, typeInfo, hj, run_sameAddr_same]
          exact h 9999
        refine ⟨by cases op <;> rfl, ?_, ?_⟩ <;> simp only [binOp, Sem.run_bind, he, Result.andThen_ok, Sem.run_pure]
        rfl
  · cases h

end
end Go.Ke
