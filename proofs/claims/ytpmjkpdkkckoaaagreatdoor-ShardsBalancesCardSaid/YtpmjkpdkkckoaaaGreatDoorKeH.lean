/- Each operation of the abstract run, against the model's: maps' keys, and all that changes nothing, together. No condition. -/
import Derived.Test.YtpmjkpdkkckoaaaGreatDoorKeFg
namespace Go.Ke
open Go.RowKit (Below)

section
variable {P : Program} {N : Nat} {ρ : Loc} {σ : St} {w : World} {T : Tr Value} {a : Act}

theorem plainV_self {v v' : Value} (h : VRel ρ v v') (hp : plainV v = true) : v' = v := plainV_eq h hp

/-! ### Keys -/

theorem checkKey_scalar {t : TypeId} {d : TypeDesc} (hu : P.underlying t = some d) (hd : d = .bool ∨ (∃ k, d = .int k) ∨ d = .string) (em : Bool) (n : Nat) (v : Value) (w : World) : (Instr.checkKey em (n + 1) t v).run P w = .ok () w := by
  unfold Instr.checkKey
  simp only [Sem.run_bind, run_underlying hu, Result.andThen_ok]
  rcases hd with rfl | ⟨k, rfl⟩ | rfl <;> rfl

theorem ckFs_cons (self : TypeId → Value → Bool) (xs : List Value) (f : Field) (l : List Field) : ckFs P self xs (f :: l) = match f.name != "_", partOf P f.type xs f.offset with
    | true, some u => @Bool.rec (fun _ => Bool) false (ckFs P self xs l) (self f.type u)
    | _, _ => false := rfl

theorem ckIs_cons (self : TypeId → Value → Bool) (e : TypeId) (xs : List Value) (i : Nat) (l : List Nat) : ckIs P self e xs (i :: l) = match partOf P e xs (i * P.cellsOf e) with
    | some u => @Bool.rec (fun _ => Bool) false (ckIs P self e xs l) (self e u)
    | none => false := rfl

def CkOK (P : Program) (ρ : Loc) (em : Bool) (d : Nat) (self : TypeId → Value → Bool) : Prop := ∀ t u u' w, self t u = true → VRel ρ u u' → (Instr.checkKey em d t u').run P w = .ok () w

theorem ckFs_sound {em : Bool} {d : Nat} {self : TypeId → Value → Bool} (hs : CkOK P ρ em d self) (w : World) {xs : List Value} {cs : Array Value} (hx : LRel ρ xs cs.toList) : ∀ (l : List Field), ckFs P self xs l = true →
    (forIn l PUnit.unit (fun (f : Field) (_ : PUnit) => (if f.name ≠ "_" then do Instr.checkKey em d f.type (← part f.type cs f.offset); pure (ForInStep.yield PUnit.unit) else pure (ForInStep.yield PUnit.unit) : Sem (ForInStep PUnit)))).run P w = .ok PUnit.unit w := by
  intro l
  induction l with
  | nil => intro _; rfl
  | cons f l ih =>
    intro h
    rw [ckFs_cons] at h
    split at h
    · rename_i u hn hu
      have hn' : f.name ≠ "_" := by simpa using hn
      cases hq : self f.type u with
      | false => rw [hq] at h; cases h
      | true =>
        rw [hq] at h
        obtain ⟨du, hdu⟩ := under_of_part hu
        obtain ⟨u', pu, ru⟩ := run_part (w := w) hdu hu hx
        rw [List.forIn_cons]
        simp only [hn', if_true, Sem.run_bind, pu, Result.andThen_ok, hs _ _ _ w hq ru, Sem.run_pure, not_false_eq_true, ne_eq]
        exact ih h
    · cases h

theorem ckIs_sound {em : Bool} {d : Nat} {self : TypeId → Value → Bool} (hs : CkOK P ρ em d self) (w : World) {e : TypeId} {i : TypeInfo} (hi : P.info? e = some i) {xs : List Value} {cs : Array Value} (hx : LRel ρ xs cs.toList) : ∀ (l : List Nat), ckIs P self e xs l = true →
    (forIn l PUnit.unit (fun (j : Nat) (_ : PUnit) => (do Instr.checkKey em d e (← part e cs (j * (← sizeOf e))); pure (ForInStep.yield PUnit.unit) : Sem (ForInStep PUnit)))).run P w = .ok PUnit.unit w := by
  intro l
  induction l with
  | nil => intro _; rfl
  | cons j l ih =>
    intro h
    rw [ckIs_cons] at h
    split at h
    · rename_i u hu
      cases hq : self e u with
      | false => rw [hq] at h; cases h
      | true =>
        rw [hq] at h
        obtain ⟨du, hdu⟩ := under_of_part hu
        obtain ⟨u', pu, ru⟩ := run_part (w := w) hdu hu hx
        rw [List.forIn_cons]
        simp only [Sem.run_bind, run_sizeOf w hi, Result.andThen_ok, pu, hs _ _ _ w hq ru, Sem.run_pure]
        exact ih h
    · cases h

theorem ckV_succ (n : Nat) (t : TypeId) (a : Value) : ckV P (n + 1) t a = match P.underlying t with
    | some .bool => true
    | some (.int _) => true
    | some .string => true
    | some (.struct fs) => match a with
      | .agg xs => ckFs P (ckV P n) xs.toList fs.toList
      | _ => false
    | some (.array len e) => match a with
      | .agg xs => match P.info? e with
        | some _ => ckIs P (ckV P n) e xs.toList (List.range len)
        | none => false
      | _ => false
    | _ => false := rfl

theorem ckV_sound (em : Bool) : ∀ (n d : Nat), n ≤ d → CkOK P ρ em d (ckV P n) := by
  intro n
  induction n with
  | zero => intro d _ t u u' w h; cases h
  | succ n ih =>
    intro d hd t u u' w h hx
    obtain ⟨d, rfl⟩ : ∃ k, d = k + 1 := ⟨d - 1, by omega⟩
    have ih := ih d (by omega)
    rw [ckV_succ] at h
    split at h
    · rename_i hu; exact checkKey_scalar hu (by simp) em _ _ w
    · rename_i hu; exact checkKey_scalar hu (by simp) em _ _ w
    · rename_i hu; exact checkKey_scalar hu (by simp) em _ _ w
    · rename_i fs hu
      split at h
      · rename_i xs
        cases hx with
        | agg _ xs' hs hc =>
          have := ckFs_sound ih w (LRel.of_array hs hc) _ h
          unfold Instr.checkKey
          simp only [Sem.run_bind, run_underlying hu, Result.andThen_ok]
          rw [Array.forIn_toList] at this
          simp at this ⊢
          rw [this]
          rfl
      · cases h
    · rename_i len e hu
      split at h
      · rename_i xs
        split at h
        · rename_i i hi
          cases hx with
          | agg _ xs' hs hc =>
            have := ckIs_sound ih w hi (LRel.of_array hs hc) _ h
            unfold Instr.checkKey
            simp only [Sem.run_bind, run_underlying hu, Result.andThen_ok]
            simp only [Std.Legacy.Range.forIn_eq_forIn_range', Std.Legacy.Range.size, Nat.sub_zero, Nat.add_one_sub_one, Nat.div_one]
            rw [List.range_eq_range'] at this
            simp at this ⊢
            rw [this]
            rfl
        · cases h
      · cases h
    · cases h

theorem keyOk_sound {t : TypeId} {v : Value} (h : keyOk P t v = true) : plainV v = true ∧ ∀ em w, (Instr.checkKey em 10000 t v).run P w = .ok () w := by
  unfold keyOk at h
  simp only [Bool.and_eq_true] at h
  obtain ⟨⟨hp, _⟩, h⟩ := h
  exact ⟨hp, fun em w => ckV_sound (ρ := fun _ => none) em 8 10000 (by decide) t v v w h (plainV_rel _ hp)⟩

theorem findE_cons (t : TypeId) (key : Value) (e : MapEntry) (l : List MapEntry) (i : Nat) : findE P t key (e :: l) i = match keyEq P t key e.key with
    | none => none
    | some true => some (some (i, e))
    | some false => findE P t key l (i + 1) := rfl

/-- What is found: nothing, or the first entry with the key, at its place, in both. -/
def FoundRel (ρ : Loc) (l l' : List MapEntry) (i : Nat) : Option (Nat × MapEntry) → Option (Nat × Value) → Prop
  | none, none => True
  | some (j, e), some (j', v) => j' = j ∧ i ≤ j ∧ l[j - i]? = some e ∧ ∃ e', l'[j - i]? = some e' ∧ ERel ρ e e' ∧ v = e'.val
  | _, _ => False

theorem findAsking_sound {t : TypeId} {key key' : Value} (hk : VRel ρ key key') (w : World) : ∀ {l l' : List MapEntry}, F2 (ERel ρ) l l' → ∀ {i : Nat} {r : Option (Nat × MapEntry)}, findE P t key l i = some r →
    ∃ r', (Instr.findAsking t key' l' i).run P w = .ok r' w ∧ FoundRel ρ l l' i r r' := by
  intro l l' hl
  induction hl with
  | nil => intro i r h; cases h; exact ⟨none, rfl, trivial⟩
  | cons he _ ih =>
    rename_i e e' l l' ht
    intro i r h
    rw [findE_cons] at h
    rw [Instr.findAsking]
    split at h
    · cases h
    · rename_i hq
      cases h
      obtain ⟨h1, _⟩ := keyEq_sound hq hk he.key w
      refine ⟨some (i, e'.val), ?_, rfl, Nat.le_refl _, by simp, e', by simp, he, rfl⟩
      simp only [Sem.run_bind, h1, Result.andThen_ok, if_true, Sem.run_pure]
    · rename_i hq
      obtain ⟨h1, _⟩ := keyEq_sound hq hk he.key w
      obtain ⟨r', h2, h3⟩ := ih h
      refine ⟨r', ?_, ?_⟩
      · simp only [Sem.run_bind, h1, Result.andThen_ok, Bool.false_eq_true, if_false]
        exact h2
      · cases r with
        | none => cases r' with
          | none => trivial
          | some x => exact h3.elim
        | some x => cases r' with
          | none => obtain ⟨j, e0⟩ := x; exact h3.elim
          | some y =>
            obtain ⟨j, e0⟩ := x
            obtain ⟨j', v⟩ := y
            obtain ⟨g1, g2, g3, e1, g4, g5, g6⟩ := h3
            have hj : j - i = (j - (i + 1)) + 1 := by omega
            exact ⟨g1, by omega, by rw [hj]; simpa using g3, e1, by rw [hj]; simpa using g4, g5, g6⟩

theorem findNow_sound {t : TypeId} {d : TypeDesc} (hu : P.underlying t = some d) {key key' : Value} (hk : VRel ρ key key') : ∀ {l l' : List MapEntry}, F2 (ERel ρ) l l' → ∀ {i : Nat} {r : Option (Nat × MapEntry)}, findE P t key l i = some r →
    Instr.findNow d key' l' i = none ∨ ∃ r', Instr.findNow d key' l' i = some r' ∧ FoundRel ρ l l' i r r' := by
  intro l l' hl
  induction hl with
  | nil => intro i r h; cases h; exact .inr ⟨none, rfl, trivial⟩
  | cons he _ ih =>
    rename_i e e' l l' ht
    intro i r h
    rw [findE_cons] at h
    rw [Instr.findNow]
    split at h
    · cases h
    · rename_i hq
      cases h
      obtain ⟨_, h1⟩ := keyEq_sound hq hk he.key default
      rcases h1 d hu with h1 | h1
      · right
        refine ⟨some (i, e'.val), by rw [h1], rfl, Nat.le_refl _, by simp, e', by simp, he, rfl⟩
      · left; rw [h1]
    · rename_i hq
      obtain ⟨_, h1⟩ := keyEq_sound hq hk he.key default
      rcases h1 d hu with h1 | h1
      · rw [h1]
        rcases ih h with h2 | ⟨r', h2, h3⟩
        · exact .inl h2
        · right
          refine ⟨r', h2, ?_⟩
          cases r with
          | none => cases r' with
            | none => trivial
            | some x => exact h3.elim
          | some x => cases r' with
            | none => obtain ⟨j, e0⟩ := x; exact h3.elim
            | some y =>
              obtain ⟨j, e0⟩ := x
              obtain ⟨j', v⟩ := y
              obtain ⟨g1, g2, g3, e1, g4, g5, g6⟩ := h3
              have hj : j - i = (j - (i + 1)) + 1 := by omega
              exact ⟨g1, by omega, by rw [hj]; simpa using g3, e1, by rw [hj]; simpa using g4, g5, g6⟩
      · left; rw [h1]

theorem keyOk_under {t : TypeId} {v : Value} (h : keyOk P t v = true) : ∃ d, P.underlying t = some d := by
  unfold keyOk at h
  simp only [Bool.and_eq_true] at h
  cases hu : P.underlying t with
  | none => have h2 := h.2; rw [ckV_succ, hu] at h2; cases h2
  | some d => exact ⟨d, rfl⟩

theorem findKey_sound {t : TypeId} {key key' : Value} (hok : keyOk P t key = true) (hk : VRel ρ key key') (w : World) {l l' : List MapEntry} (hl : F2 (ERel ρ) l l') {r : Option (Nat × MapEntry)} (h : findE P t key l 0 = some r) :
    ∃ r', (Instr.findKey t key' l').run P w = .ok r' w ∧ FoundRel ρ l l' 0 r r' := by
  obtain ⟨d, hu⟩ := keyOk_under hok
  unfold Instr.findKey
  simp only [Sem.run_bind, run_underlying hu, Result.andThen_ok]
  rcases findNow_sound hu hk hl h with h1 | ⟨r', h1, h2⟩
  · rw [h1]
    exact findAsking_sound hk w hl h
  · rw [h1]
    exact ⟨r', rfl, h2⟩

/-! ### Maps -/

theorem mapTypes_spec {t k e : TypeId} (h : mapTypes P t = some (k, e)) : P.underlying t = some (.map k e) := by
  unfold mapTypes at h
  split at h
  · rename_i k' e' hu
    cases h
    exact hu
  · cases h

theorem aMap_sound (hr : Rel P N ρ σ w) {k : Nat} {es : List MapEntry} {clock : Nat} (h : aMap σ k = some (es, clock)) {p : Pl} (hp : ρ k = some p) :
    σ.heap.get k = some (.map es clock) ∧ ∃ es', w.heap[p.b]? = some (.map es' clock) ∧ F2 (ERel ρ) es es'.toList := by
  unfold aMap at h
  split at h
  · rename_i es' clock' hg
    split at h
    · cases h
      exact ⟨hg, hr.obj k p _ hp hg⟩
    · cases h
  · cases h

theorem aMap_free {k : Nat} {es : List MapEntry} {clock : Nat} (h : aMap σ k = some (es, clock)) : σ.cls.get k = none := by
  unfold aMap at h
  split at h
  · split at h
    · rename_i hn; exact hn
    · cases h
  · cases h

theorem run_getMap {b : Nat} {es : Array MapEntry} {clock : Nat} (h : w.heap[b]? = some (.map es clock)) : (getObj b).run P w = .ok (.map es clock) w := by
  simp only [getObj, Sem.run, h]

theorem zeroOf_spec {t : TypeId} {z : Value} (h : zeroOf P t = some z) : ∃ i, P.info? t = some i ∧ i.zero = some z := by
  unfold zeroOf at h
  split at h
  · rename_i i hi; exact ⟨i, hi, h⟩
  · cases h

theorem okPair_rel {v v' : Value} (h : VRel ρ v v') (ok b : Bool) : VRel ρ (okPair ok v b) (if ok = true then .tuple #[v', .bool b] else v') := by
  cases ok with
  | false => exact h
  | true =>
    refine .tuple _ _ rfl fun i h1 h2 => ?_
    have : i = 0 ∨ i = 1 := by simp at h1; omega
    rcases this with rfl | rfl
    · exact h
    · exact .bool b

theorem findU_cons (t : TypeId) (key : Value) (e : Value × Value) (l : List (Value × Value)) : findU P t key (e :: l) = match keyEq P t key e.1, findU P t key l with
    | some false, some r => some r
    | some true, some none => some (some e.2)
    | _, _ => none := rfl

theorem findU_perm {t : TypeId} {key : Value} {l l' : List (Value × Value)} (h : l.Perm l') : findU P t key l = findU P t key l' := by
  induction h with
  | nil => rfl
  | cons x _ ih => rw [findU_cons, findU_cons, ih]
  | swap x y l =>
    rw [findU_cons, findU_cons, findU_cons, findU_cons]
    cases keyEq P t key x.1 with
    | none => cases keyEq P t key y.1 with
      | none => rfl
      | some b => cases b <;> rfl
    | some a => cases keyEq P t key y.1 with
      | none => cases a <;> cases findU P t key l with
        | none => rfl
        | some r => cases r <;> rfl
      | some b => cases a <;> cases b <;> cases findU P t key l with
        | none => rfl
        | some r => cases r <;> rfl
  | trans _ _ ih1 ih2 => rw [ih1, ih2]

theorem findU_none {t : TypeId} {key : Value} : ∀ {l : List MapEntry}, findU P t key (l.map fun e => (e.key, e.val)) = some none → ∀ i, findE P t key l i = some none := by
  intro l
  induction l with
  | nil => intro _ i; rfl
  | cons e l ih =>
    intro h i
    rw [List.map_cons, findU_cons] at h
    rw [findE_cons]
    split at h
    · rename_i r hq hr
      cases h
      rw [hq]
      exact ih hr (i + 1)
    · cases h
    · cases h

theorem findU_some {t : TypeId} {key v : Value} : ∀ {l : List MapEntry}, findU P t key (l.map fun e => (e.key, e.val)) = some (some v) → ∀ i, ∃ j e, findE P t key l i = some (some (j, e)) ∧ e.val = v := by
  intro l
  induction l with
  | nil => intro h i; cases h
  | cons e l ih =>
    intro h i
    rw [List.map_cons, findU_cons] at h
    rw [findE_cons]
    split at h
    · rename_i r hq hr
      cases h
      rw [hq]
      exact ih hr (i + 1)
    · rename_i hq hr
      cases h
      rw [hq]
      exact ⟨i, e, rfl, rfl⟩
    · cases h

theorem aBag_sound (hr : Rel P N ρ σ w) {k : Nat} {es : List (Value × Value)} (h : aBag σ k = some es) {p : Pl} (hp : ρ k = some p) :
    σ.heap.get k = some (.bag es) ∧ σ.cls.get k = none ∧ ∃ es' c es1, w.heap[p.b]? = some (.map es' c) ∧ F2 (ERel ρ) es1 es'.toList ∧ (es1.map fun e => (e.key, e.val)).Perm es := by
  unfold aBag at h
  split at h
  · rename_i es' hg
    split at h
    · rename_i hn
      cases h
      exact ⟨hg, hn, hr.obj k p _ hp hg⟩
    · cases h
  · cases h

theorem eLookup_sound (hr : Rel P N ρ σ w) {t : TypeId} {m m' key key' : Value} {ok : Bool} {r : ORes} (h : eLookup P σ t m key ok = some r) (hm : VRel ρ m m') (hk : VRel ρ key key') :
    ∃ u u', r = .val u ∧ (Instr.lookup t m' key' ok).run P w = .ok u' w ∧ VRel ρ u u' := by
  unfold eLookup at h
  split at h
  · cases h
  · rename_i kt et hmt
    have hu := mapTypes_spec hmt
    split at h
    · rename_i z hok hz
      obtain ⟨hpl, hck⟩ := keyOk_sound hok
      obtain ⟨iz, hiz, hzz⟩ := zeroOf_spec hz
      have hkk := plainV_eq hk hpl
      split at h
      · cases h
      · rename_i hzp
        split at h
        · cases h
          cases hm
          refine ⟨_, _, rfl, ?_, okPair_rel (plainV_rel ρ hzp) ok false⟩
          unfold Instr.lookup
          rw [hkk]
          simp only [Sem.run_bind, run_underlying hu, Result.andThen_ok, Sem.run_pure, hck]
          have hf : (Instr.findKey kt key (#[] : Array MapEntry).toList).run P w = .ok none w := by
            obtain ⟨r', h1, h2⟩ := findKey_sound (ρ := ρ) hok (plainV_rel ρ hpl) w (l := []) (l' := []) .nil (r := none) rfl
            cases r' with
            | none => exact h1
            | some x => exact h2.elim
          simp only [hf, Result.andThen_ok, Sem.run_bind, run_zero hiz hzz, Sem.run_pure]
        · rename_i k
          cases hm with
          | map _ p hp =>
            split at h
            · split at h
              · cases h
              · rename_i es hbag
                obtain ⟨_, _, es', c, es1, hb, hes, hpm⟩ := aBag_sound hr hbag hp
                have hg := run_getMap (P := P) hb
                rw [← findU_perm hpm] at h
                split at h
                · cases h
                · rename_i hfind
                  cases h
                  obtain ⟨r', h1, h2⟩ := findKey_sound hok hk w hes (findU_none hfind 0)
                  cases r' with
                  | some x => exact h2.elim
                  | none =>
                    refine ⟨_, _, rfl, ?_, okPair_rel (plainV_rel ρ hzp) ok false⟩
                    unfold Instr.lookup
                    rw [hkk] at h1 ⊢
                    simp only [Sem.run_bind, run_underlying hu, Result.andThen_ok, Sem.run_pure, hg, hck, h1, run_zero hiz hzz]
                · rename_i v hfind
                  cases h
                  obtain ⟨j0, e, hfe, rfl⟩ := findU_some hfind 0
                  obtain ⟨r', h1, h2⟩ := findKey_sound hok hk w hes hfe
                  cases r' with
                  | none => exact h2.elim
                  | some x =>
                    obtain ⟨j, v⟩ := x
                    obtain ⟨_, _, _, e', _, he, rfl⟩ := h2
                    refine ⟨_, _, rfl, ?_, okPair_rel he.val ok true⟩
                    unfold Instr.lookup
                    rw [hkk] at h1 ⊢
                    simp only [Sem.run_bind, run_underlying hu, Result.andThen_ok, Sem.run_pure, hg, hck, h1]
            · rename_i es clock hmap
              obtain ⟨_, es', hb, hes⟩ := aMap_sound hr hmap hp
              have hg := run_getMap (P := P) hb
              split at h
              · cases h
              · rename_i hfind
                cases h
                obtain ⟨r', h1, h2⟩ := findKey_sound hok hk w hes hfind
                cases r' with
                | some x => exact h2.elim
                | none =>
                  refine ⟨_, _, rfl, ?_, okPair_rel (plainV_rel ρ hzp) ok false⟩
                  unfold Instr.lookup
                  rw [hkk] at h1 ⊢
                  simp only [Sem.run_bind, run_underlying hu, Result.andThen_ok, Sem.run_pure, hg, hck, h1, run_zero hiz hzz]
              · rename_i i e hfind
                cases h
                obtain ⟨r', h1, h2⟩ := findKey_sound hok hk w hes hfind
                cases r' with
                | none => exact h2.elim
                | some x =>
                  obtain ⟨j, v⟩ := x
                  obtain ⟨_, _, _, e', _, he, rfl⟩ := h2
                  refine ⟨_, _, rfl, ?_, okPair_rel he.val ok true⟩
                  unfold Instr.lookup
                  rw [hkk] at h1 ⊢
                  simp only [Sem.run_bind, run_underlying hu, Result.andThen_ok, Sem.run_pure, hg, hck, h1]
        · cases h
    · cases h

end
end Go.Ke
