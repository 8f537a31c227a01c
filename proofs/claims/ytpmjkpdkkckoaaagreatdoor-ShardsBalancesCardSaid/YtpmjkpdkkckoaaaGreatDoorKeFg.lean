/- The abstract run is right: operations. No condition. -/
import Derived.Test.YtpmjkpdkkckoaaaGreatDoorKeE
import Derived.Laws.StructEq
import Derived.LaidEql
import Derived.ChangeKeysEq
namespace Go.Ke
open Go.RowKit (Below)

/-- A slot of the abstract frame and of the true one. -/
def TRs (ρ : Loc) (T : Tr Value) (a : Act) (t : Nat) : Prop := VRel ρ (tmpOf T t) (a.tmps.getD t undef)

theorem undef_rel (ρ : Loc) : VRel ρ undef undef := .tuple #[] #[] rfl fun i h => absurd h (by simp)

theorem TRs.mono {ρ ρ' : Loc} (hle : ρ.le ρ') {T : Tr Value} {a : Act} {t : Nat} (h : TRs ρ T a t) : TRs ρ' T a t := VRel.mono hle h

section
variable {P : Program} {N : Nat} {ρ : Loc} {σ : St} {w : World} {T : Tr Value} {a : Act}

theorem tmpOf_none {t : Nat} (h : T.get t = none) : tmpOf T t = undef := by unfold tmpOf; rw [h]
theorem tmpOf_some {t : Nat} {v : Value} (h : T.get t = some v) : tmpOf T t = v := by unfold tmpOf; rw [h]
theorem tmpOf_set (v : Value) (d t : Nat) : tmpOf (T.set v d) t = if t = d then v else tmpOf T t := by
  by_cases e : t = d
  · rw [if_pos e, tmpOf_some (by rw [Tr.get_set, if_pos e])]
  · rw [if_neg e]
    cases h : T.get t with
    | none => rw [tmpOf_none h, tmpOf_none (by rw [Tr.get_set, if_neg e]; exact h)]
    | some x => rw [tmpOf_some h, tmpOf_some (by rw [Tr.get_set, if_neg e]; exact h)]

theorem opd_sound (hr : Rel P N ρ σ w) {x : Operand} {v : Value} (h : opd σ T x = some v) (hx : ∀ t, x = .tmp t → TRs ρ T a t) : VRel ρ v (a.eval x) := by
  cases x with
  | tmp t =>
    cases h
    exact hx t rfl
  | const c =>
    simp only [opd] at h
    split at h
    · rename_i hc
      cases h
      exact plainV_rel ρ hc
    · cases h
  | global g =>
    simp only [opd] at h
    split at h
    · rename_i hg
      cases h
      have hlt : g < σ.G := by
        have := Nat.le_of_ble_eq_true hg
        exact this
      obtain ⟨p, hp, h1, h2⟩ := hr.glob g hlt
      have := VRel.ptr (ρ := ρ) g 0 p hp
      rw [h1, h2] at this
      exact this
    · cases h
  | func f =>
    cases h
    exact .fn f #[] #[] #[] #[] rfl rfl (fun i h => absurd h (by simp)) (fun i h => absurd h (by simp))

theorem opds_sound (hr : Rel P N ρ σ w) : ∀ {l : List Operand} {vs : List Value}, opds σ T l = some vs → (∀ x ∈ l, ∀ t, x = .tmp t → TRs ρ T a t) → LRel ρ vs (l.map a.eval) := by
  intro l
  induction l with
  | nil => intro vs h _; cases h; exact .nil
  | cons x l ih =>
    intro vs h hx
    change (match opd σ T x with
      | none => none
      | some v => match opds σ T l with
        | none => none
        | some r => some (v :: r)) = some vs at h
    split at h
    · cases h
    · rename_i v hv
      split at h
      · cases h
      · rename_i r hl
        cases h
        exact .cons (opd_sound hr hv (hx x (by simp))) (ih hl fun y hy => hx y (by simp [hy]))

/-! ### What the types say -/

theorem info_of_under {t : TypeId} {d : TypeDesc} (h : P.underlying t = some d) : ∃ i, P.info? t = some i := by
  unfold Program.underlying at h
  cases hi : P.info? t with
  | none => rw [hi] at h; cases h
  | some i => exact ⟨i, rfl⟩

theorem run_info {t : TypeId} {i : TypeInfo} (h : P.info? t = some i) (w : World) : (typeInfo t).run P w = .ok i w := by
  simp [typeInfo, h]

theorem run_size {t : TypeId} {i : TypeInfo} (h : P.info? t = some i) (w : World) : (sizeOf t).run P w = .ok (P.cellsOf t) w := by
  simp [sizeOf, run_info h, Program.cellsOf, h]

theorem run_agg {t : TypeId} {d : TypeDesc} (h : P.underlying t = some d) (w : World) : (isAgg t).run P w = .ok (isAggB P t) w := by
  unfold isAgg isAggB
  rw [h]
  simp only [Sem.run_bind, run_underlying h, Result.andThen_ok]
  cases d <;> rfl

theorem add_zero (b o : Nat) : Addr.add ⟨b, o, none⟩ 0 = ⟨b, o, none⟩ := rfl
theorem add_some (b o j : Nat) : Addr.add ⟨b, o, none⟩ j = ⟨b, o + j, none⟩ := by
  unfold Addr.add
  split
  · rename_i h0; subst h0; rfl
  · rfl

/-! ### A load -/

theorem eLoad_sound (hr : Rel P N ρ σ w) {t : TypeId} {v v' r : Value} (h : eLoad P σ t v = some (.val r)) (hv : VRel ρ v v') :
    ∃ r', (Instr.loadAt t v').run P w = .ok r' w ∧ VRel ρ r r' ∧ (loadVar t (match v' with | .pointer (some q) => q | _ => default)).run P w = .ok r' w ∧ ∃ q, v' = .pointer (some q) := by
  unfold eLoad at h
  split at h
  · rename_i k off
    cases hv with
    | ptr _ _ p hp =>
      cases hd : P.underlying t with
      | none => rw [hd] at h; cases h
      | some d =>
        rw [hd] at h
        obtain ⟨i, hi⟩ := info_of_under hd
        simp only at h
        split at h
        · rename_i hagg
          split at h
          · rename_i l hl
            cases h
            obtain ⟨hlen, l', hl', hc⟩ := aLoad_sound hr hl hp
            have hrun : (loadVar t ⟨p.b, p.o + off, none⟩).run P w = .ok (.agg l'.toArray) w := by
              unfold loadVar
              simp only [Sem.run_bind, run_agg hd, hagg, Result.andThen_ok, if_true, run_size hi]
              have := run_loadCells_list (P := P) (w := w) ⟨p.b, p.o + off, none⟩ l' hc
              rw [← hl'.length, hlen] at this
              simp [this]
            refine ⟨.agg l'.toArray, ?_, ?_, hrun, _, rfl⟩
            · simp only [Instr.loadAt, Instr.sureAddr, Sem.run_bind, Sem.run_pure, Result.andThen_ok]
              exact hrun
            · obtain ⟨h1, h2⟩ := hl'.to_array
              exact .agg _ _ h1 h2
          · cases h
        · rename_i hagg
          split at h
          · rename_i x hl
            cases h
            obtain ⟨hlen, l', hl', hc⟩ := aLoad_sound hr hl hp
            cases hl' with
            | cons hxy ht =>
              rename_i y l''
              have hcell := hc 0 y (by simp)
              rw [add_zero] at hcell
              have hrun : (loadVar t ⟨p.b, p.o + off, none⟩).run P w = .ok y w := by
                unfold loadVar
                simp [run_agg hd, hagg, hcell]
              refine ⟨y, ?_, hxy, hrun, _, rfl⟩
              simp only [Instr.loadAt, Instr.sureAddr, Sem.run_bind, Sem.run_pure, Result.andThen_ok]
              exact hrun
          · cases h
  · cases h

/-! ### Runs that look at the program alone -/

theorem pureRun_sound {α : Type} : ∀ {s : Sem α} {x : α}, pureRun P s = some x → ∀ w, s.run P w = .ok x w := by
  intro s
  induction s with
  | pure a => intro x h w; cases h; rfl
  | program k ih => intro x h w; exact ih P h w
  | mark m k ih => intro x h w; exact ih h w
  | _ => intro x h; cases h

theorem plainV_eq {v v' : Value} (h : VRel ρ v v') (hp : plainV v = true) : v' = v := by
  cases h with
  | agg xs ys hs hc =>
    have := allPlain_eq (LRel.of_array hs hc) hp
    congr 1
    exact Array.toList_inj.1 this
  | tuple xs ys hs hc =>
    have := allPlain_eq (LRel.of_array hs hc) hp
    congr 1
    exact Array.toList_inj.1 this
  | _ => first | rfl | exact absurd hp (by simp [plainV, plain1])

theorem plainOpds_spec : ∀ {l : List Operand}, plainOpds σ T l = true → ∀ x ∈ l, ∃ v, opd σ T x = some v ∧ plainV v = true := by
  intro l
  induction l with
  | nil => intro _ x hx; cases hx
  | cons y l ih =>
    intro h x hx
    change (match opd σ T y with
      | none => false
      | some v => match plainV v with
        | true => plainOpds σ T l
        | false => false) = true at h
    split at h
    · cases h
    · rename_i v hv
      split at h
      · rename_i hp
        cases hx with
        | head => exact ⟨v, hv, hp⟩
        | tail _ hx => exact ih h x hx
      · cases h

theorem eGeneric_sound (hr : Rel P N ρ σ w) {o : Oper} {r : ORes} (h : eGeneric P σ T o = some r) (hx : ∀ x ∈ o.op.operands, ∀ t, x = .tmp t → TRs ρ T a t) (hs : ∀ cs b, o.op ≠ .select cs b) :
    ∃ v, r = .val v ∧ (execOp a.eval o).run P w = .ok (.value v) w ∧ VRel ρ v v := by
  unfold eGeneric at h
  split at h
  · cases h
  · rename_i hp
    split at h
    · rename_i v hv
      split at h
      · rename_i hpv
        cases h
        refine ⟨v, rfl, ?_, plainV_rel ρ hpv⟩
        have he : execOp a.eval o = execOp (opdD σ T) o := by
          refine execOp_congr o hs fun x hxm => ?_
          obtain ⟨u, hu, hpu⟩ := plainOpds_spec hp x (by simpa using hxm)
          unfold opdD
          rw [hu]
          exact plainV_eq (opd_sound hr hu (hx x hxm)) hpu
        rw [he]
        exact pureRun_sound hv w
      · cases h
    · cases h

/-! ### Aggregates -/

theorem splice_nil (off : Nat) (vs : List Value) : splice [] off vs = [] := rfl
theorem splice_zero_nil (c : Value) (l : List Value) : splice (c :: l) 0 [] = c :: splice l 0 [] := rfl
theorem splice_zero_cons (c v : Value) (l r : List Value) : splice (c :: l) 0 (v :: r) = v :: splice l 0 r := rfl
theorem splice_succ (c : Value) (l vs : List Value) (n : Nat) : splice (c :: l) (n + 1) vs = c :: splice l n vs := rfl

theorem splice_length : ∀ (l : List Value) (off : Nat) (vs : List Value), (splice l off vs).length = l.length := by
  intro l
  induction l with
  | nil => intro off vs; rfl
  | cons c l ih =>
    intro off vs
    cases off with
    | zero => cases vs with
      | nil => rw [splice_zero_nil]; simp [ih]
      | cons v r => rw [splice_zero_cons]; simp [ih]
    | succ n => rw [splice_succ]; simp [ih]

theorem splice_get : ∀ (l : List Value) (off : Nat) (vs : List Value), off + vs.length ≤ l.length → ∀ j : Nat, (splice l off vs)[j]? = if off ≤ j ∧ j < off + vs.length then vs[j - off]? else l[j]? := by
  intro l
  induction l with
  | nil =>
    intro off vs h j
    simp only [List.length_nil] at h
    rw [splice_nil, if_neg (by omega)]
  | cons c l ih =>
    intro off vs h j
    simp only [List.length_cons] at h
    cases off with
    | zero =>
      cases vs with
      | nil =>
        rw [splice_zero_nil]
        cases j with
        | zero => simp
        | succ j =>
          simp only [List.getElem?_cons_succ]
          rw [ih 0 [] (by simp) j]
          simp
      | cons v r =>
        simp only [List.length_cons] at h
        rw [splice_zero_cons]
        cases j with
        | zero => simp
        | succ j =>
          simp only [List.getElem?_cons_succ, List.length_cons]
          rw [ih 0 r (by omega) j]
          by_cases h1 : j < r.length
          · rw [if_pos (by omega), if_pos (by omega)]; simp
          · rw [if_neg (by omega), if_neg (by omega)]
    | succ n =>
      rw [splice_succ]
      cases j with
      | zero => rw [if_neg (by omega)]; simp
      | succ j =>
        simp only [List.getElem?_cons_succ]
        rw [ih n vs (by omega) j]
        by_cases h1 : n ≤ j ∧ j < n + vs.length
        · rw [if_pos h1, if_pos (by omega)]; congr 1; omega
        · rw [if_neg h1, if_neg (by omega)]

theorem LRel.of_get {l l' : List Value} (hl : l.length = l'.length) (h : ∀ (i : Nat) x y, l[i]? = some x → l'[i]? = some y → VRel ρ x y) : LRel ρ l l' := by
  induction l generalizing l' with
  | nil => cases l' with
    | nil => exact .nil
    | cons y l' => simp at hl
  | cons x l ih => cases l' with
    | nil => simp at hl
    | cons y l' => exact .cons (h 0 x y (by simp) (by simp)) (ih (by simpa using hl) fun i u v hu hv => h (i + 1) u v (by simpa using hu) (by simpa using hv))

theorem over_rel {l vs vs' : List Value} {c : Array Value} {off : Nat} (hl : LRel ρ l c.toList) (hv : LRel ρ vs vs') (hb : off + vs.length ≤ l.length) : LRel ρ (splice l off vs) (over c off vs').toList := by
  have h1 := hl.length
  have h2 := hv.length
  have h3 : c.toList.length = c.size := by simp
  refine LRel.of_get (by rw [splice_length]; simp only [Array.length_toList, over_size]; omega) fun i x y hx hy => ?_
  rw [splice_get _ _ _ hb] at hx
  rw [Array.getElem?_toList, over_get _ _ _ (by omega)] at hy
  by_cases h : off ≤ i ∧ i < off + vs.length
  · rw [if_pos h] at hx
    rw [if_pos (by omega)] at hy
    exact hv.map_get hx hy
  · rw [if_neg h] at hx
    rw [if_neg (by omega)] at hy
    exact hl.map_get hx (by simpa using hy)

theorem foldl_over : ∀ (vs : List Value) (off i : Nat) (c : Array Value), (vs.zipIdx i).foldl (fun cs x => cs.setIfInBounds (off + x.2) x.1) c = over c (off + i) vs := by
  intro vs
  induction vs with
  | nil => intro off i c; rfl
  | cons v r ih =>
    intro off i c
    rw [List.zipIdx_cons, List.foldl_cons, ih]
    rfl

theorem fill_over (cs : Array Value) (off : Nat) (vs : Array Value) : vs.zipIdx.foldl (fun cs (c, j) => cs.setIfInBounds (off + j) c) cs = over cs off vs.toList := by
  rw [← Array.foldl_toList, Array.toList_zipIdx]
  exact foldl_over vs.toList off 0 cs

theorem fillL_cons (place : Nat → Option (Nat × Nat)) (x : Nat × Value) (r : List (Nat × Value)) (cells : List Value) : fillL place (x :: r) cells = match place x.1 with
    | none => none
    | some (off, size) => match Nat.beq x.2.cells.toList.length size && Nat.ble (off + size) cells.length with
      | false => none
      | true => fillL place r (splice cells off x.2.cells.toList) := rfl

def PartRel (ρ : Loc) (x y : Nat × Value) : Prop := y.1 = x.1 ∧ VRel ρ x.2 y.2

theorem fill_sound (place : Nat → Option (Nat × Nat)) {ps ps' : List (Nat × Value)} (hp : F2 (PartRel ρ) ps ps') : ∀ {z cs : List Value} {z' : Array Value}, fillL place ps z = some cs → LRel ρ z z'.toList →
    ∃ cs', Instr.fill place z' ps' = some cs' ∧ LRel ρ cs cs'.toList := by
  induction hp with
  | nil => intro z cs z' h hz; cases h; exact ⟨z', rfl, hz⟩
  | cons hxy _ ih =>
    rename_i x y l l' ht
    intro z cs z' h hz
    obtain ⟨i, u⟩ := x
    obtain ⟨j, u'⟩ := y
    obtain ⟨h1, h2⟩ := hxy
    simp only at h1 h2
    subst h1
    rw [fillL_cons] at h
    simp only at h
    cases hpl : place j with
    | none => rw [hpl] at h; cases h
    | some os =>
      obtain ⟨off, size⟩ := os
      rw [hpl] at h
      simp only at h
      split at h
      · cases h
      · rename_i hc
        simp only [Bool.and_eq_true] at hc
        obtain ⟨hs, hb⟩ := hc
        have hs := Nat.eq_of_beq_eq_true hs
        have hb := Nat.le_of_ble_eq_true hb
        have hcr := h2.cells
        have hlen := hcr.length
        have hzl := hz.length
        obtain ⟨cs', h3, h4⟩ := ih h (over_rel (c := z') hz hcr (by omega))
        refine ⟨cs', ?_, h4⟩
        rw [Instr.fill]
        simp only [hpl]
        have e1 : u'.cells.size = size := by rw [← hs, hlen]; simp
        have e2 : ¬ (off + u'.cells.size > z'.size) := by
          rw [e1]
          simp only [Array.length_toList] at hzl
          omega
        rw [if_neg (by simp only [e1]; rw [← e1]; simp; omega), fill_over]
        exact h3

theorem partVals_sound (hr : Rel P N ρ σ w) : ∀ {l : List (Nat × Operand)} {ps : List (Nat × Value)}, partVals σ T l = some ps → (∀ x ∈ l, ∀ t, x.2 = .tmp t → TRs ρ T a t) →
    F2 (PartRel ρ) ps (l.map fun x => (x.1, a.eval x.2)) := by
  intro l
  induction l with
  | nil => intro ps h _; cases h; exact .nil
  | cons x l ih =>
    intro ps h hx
    change (match opd σ T x.2 with
      | none => none
      | some v => match partVals σ T l with
        | none => none
        | some r => some ((x.1, v) :: r)) = some ps at h
    split at h
    · cases h
    · rename_i v hv
      split at h
      · cases h
      · rename_i r hl
        cases h
        exact .cons ⟨rfl, opd_sound hr hv (hx x (by simp))⟩ (ih hl fun y hy => hx y (by simp [hy]))

theorem zeroCells_spec {t : TypeId} {z : List Value} (h : zeroCellsOf P t = some z) : ∃ i v, P.info? t = some i ∧ i.zero = some v ∧ v.cells.toList = z ∧ allPlain z = true := by
  unfold zeroCellsOf at h
  split at h
  · rename_i i hi
    split at h
    · rename_i v hv
      split at h
      · rename_i hp
        cases h
        exact ⟨i, v, hi, hv, rfl, hp⟩
      · cases h
    · cases h
  · cases h

theorem run_zero {t : TypeId} {i : TypeInfo} {v : Value} (hi : P.info? t = some i) (hv : i.zero = some v) (w : World) : (zeroValue t).run P w = .ok v w := by
  simp [zeroValue, run_info hi, hv]

theorem allSized_spec : ∀ {l : List Field}, allSized P l = true → ∀ f ∈ l, ∃ i, P.info? f.type = some i := by
  intro l
  induction l with
  | nil => intro _ f hf; cases hf
  | cons x l ih =>
    intro h f hf
    change (match P.info? x.type with
      | some _ => allSized P l
      | none => false) = true at h
    split at h
    · rename_i i hi
      cases hf with
      | head => exact ⟨i, hi⟩
      | tail _ hf => exact ih h f hf
    · cases h

theorem run_places {fs : Array Field} (h : ∀ f ∈ fs.toList, ∃ i, P.info? f.type = some i) (w : World) :
    (fs.mapM fun (f : Field) => (do pure (f.offset, ← sizeOf f.type) : Sem (Nat × Nat))).run P w = .ok (fs.map fun f => (f.offset, P.cellsOf f.type)) w := by
  have key : ∀ l : List Field, (∀ f ∈ l, ∃ i, P.info? f.type = some i) → (l.mapM fun (f : Field) => (do pure (f.offset, ← sizeOf f.type) : Sem (Nat × Nat))).run P w = .ok (l.map fun f => (f.offset, P.cellsOf f.type)) w := by
    intro l
    induction l with
    | nil => intro _; simp
    | cons x l ih =>
      intro hl
      obtain ⟨i, hi⟩ := hl x (by simp)
      rw [List.mapM_cons]
      simp only [Sem.run_bind, run_size hi, Result.andThen_ok, Sem.run_pure, List.map_cons, ih fun f hf => hl f (by simp [hf])]
  rw [Array.mapM_eq_mapM_toList]
  rw [Sem.run_map, key _ h, Result.andThen_ok]
  congr 1
  apply Array.toList_inj.1
  simp

theorem parts_list (parts : Array (Nat × Operand)) (ev : Operand → Value) : (parts.map fun (i, x) => (i, ev x)).toList = parts.toList.map fun x => (x.1, ev x.2) := by
  simp

theorem lget_mem {α : Type} {l : List α} {i : Nat} {x : α} (h : lget l i = some x) : l[i]? = some x := by rw [← lget_eq]; exact h

theorem agg_rel {cells : List Value} {c' : Array Value} (hc : LRel ρ cells c'.toList) : VRel ρ (.agg cells.toArray) (.agg c') := by
  obtain ⟨h1, h2⟩ := hc.to_array
  exact .agg _ _ (by simpa using h1) (by simpa using h2)

theorem eBuild_sound (hr : Rel P N ρ σ w) {t : TypeId} {parts : Array (Nat × Operand)} {r : ORes} (h : eBuild P σ T t parts.toList = some r) (hx : ∀ x ∈ parts.toList, ∀ t, x.2 = .tmp t → TRs ρ T a t) :
    ∃ v v', r = .val v ∧ (Instr.build t (parts.map fun (i, x) => (i, a.eval x))).run P w = .ok v' w ∧ VRel ρ v v' := by
  unfold eBuild at h
  split at h
  · rename_i z ps hz hps
    obtain ⟨iz, vz, hiz, hvz, hcz, hpz⟩ := zeroCells_spec hz
    have hp := partVals_sound hr hps hx
    have hzr : LRel ρ z vz.cells.toList := by rw [hcz]; exact allPlain_rel ρ hpz
    split at h
    · rename_i fs hu
      split at h
      · cases h
      · rename_i hsz
        split at h
        · rename_i cells hf
          cases h
          obtain ⟨c', h1, h2⟩ := fill_sound _ hp hf hzr
          refine ⟨_, .agg c', rfl, ?_, agg_rel h2⟩
          unfold Instr.build
          simp only [Sem.run_bind, run_zero hiz hvz, run_underlying hu, Result.andThen_ok, run_places (allSized_spec hsz)]
          have hplace : (fun i => match lget fs.toList i with
              | some f => some (f.offset, P.cellsOf f.type)
              | none => none) = fun i => (fs.map fun f => (f.offset, P.cellsOf f.type))[i]? := by
            funext i
            rw [lget_eq, Array.getElem?_toList, Array.getElem?_map]
            cases fs[i]? <;> rfl
          have h1' : Instr.fill (fun i => (fs.map fun f => (f.offset, P.cellsOf f.type))[i]?) vz.cells (parts.toList.map fun x => (x.1, a.eval x.2)) = some c' := by
            rw [← hplace]; exact h1
          rw [parts_list, h1']
          rfl
        · cases h
    · rename_i e hu
      split at h
      · cases h
      · rename_i ie hie
        split at h
        · rename_i cells hf
          cases h
          obtain ⟨c', h1, h2⟩ := fill_sound _ hp hf hzr
          refine ⟨_, .agg c', rfl, ?_, agg_rel h2⟩
          unfold Instr.build
          simp only [Sem.run_bind, run_zero hiz hvz, run_underlying hu, Result.andThen_ok, run_size hie]
          rw [parts_list, h1]
          rfl
        · cases h
    · cases h
  · cases h

/-! ### Places -/

theorem fieldOf_spec {t : TypeId} {f : Nat} {fd : Field} (h : fieldOf P t f = some fd) : ∃ fs, P.underlying t = some (.struct fs) ∧ fs[f]? = some fd := by
  unfold fieldOf at h
  split at h
  · rename_i fs hu
    exact ⟨fs, hu, by rw [← Array.getElem?_toList]; exact lget_mem h⟩
  · cases h

theorem info_of_cells {t : TypeId} {n : Nat} (h : P.cellsOf t = n + 1) : ∃ i, P.info? t = some i := by
  cases hi : P.info? t with
  | none => simp [Program.cellsOf, hi] at h
  | some i => exact ⟨i, rfl⟩

theorem eFieldAddr_sound {t : TypeId} {v v' : Value} {f : Nat} {r : ORes} (h : eFieldAddr P t v f = some r) (hv : VRel ρ v v') :
    ∃ u u', r = .val u ∧ (Instr.fieldAt t v' f).run P w = .ok u' w ∧ VRel ρ u u' := by
  unfold eFieldAddr at h
  split at h
  · rename_i k off fd hfd
    obtain ⟨fs, hu, hf⟩ := fieldOf_spec hfd
    split at h
    · cases h
    · rename_i n hn
      cases h
      obtain ⟨i, hi⟩ := info_of_cells hn
      cases hv with
      | ptr _ _ p hp =>
        refine ⟨_, .pointer (some ⟨p.b, p.o + (off + fd.offset), none⟩), rfl, ?_, .ptr k (off + fd.offset) p hp⟩
        unfold Instr.fieldAt
        simp only [Sem.run_bind, run_underlying hu, Result.andThen_ok, hf, Instr.sureAddr, Sem.run_pure, fieldPlace, run_size hi, hn]
        simp [add_some, Nat.add_assoc]
  · cases h

theorem run_part {t : TypeId} {d : TypeDesc} (hu : P.underlying t = some d) {cs : List Value} {c' : Array Value} {off : Nat} {v : Value} (h : partOf P t cs off = some v) (hc : LRel ρ cs c'.toList) :
    ∃ v', (part t c' off).run P w = .ok v' w ∧ VRel ρ v v' := by
  unfold partOf at h
  rw [hu] at h
  simp only at h
  obtain ⟨i, hi⟩ := info_of_under hu
  unfold part
  split at h
  · rename_i hagg
    cases h
    simp only [Sem.run_bind, run_agg hu, hagg, Result.andThen_ok, if_true, run_size hi]
    refine ⟨_, rfl, agg_rel ?_⟩
    have hl := hc.length
    have h3 : (c'.extract off (off + P.cellsOf t)).toList = (c'.toList.drop off).take (P.cellsOf t) := by
      rw [Array.toList_extract, List.extract_eq_take_drop]
      simp
    rw [h3]
    have cut : ∀ (n m : Nat) (l l' : List Value), LRel ρ l l' → LRel ρ ((l.drop n).take m) ((l'.drop n).take m) := fun n m l l' h => by
      refine LRel.of_get (by simp [h.length]) fun i x y hx hy => ?_
      rw [List.getElem?_take] at hx hy
      by_cases hi : i < m
      · rw [if_pos hi] at hx hy
        rw [List.getElem?_drop] at hx hy
        exact h.map_get hx hy
      · rw [if_neg hi] at hx; cases hx
    exact cut _ _ _ _ hc
  · rename_i hagg
    have hg := lget_mem h
    obtain ⟨y, hy, hrel⟩ := hc.get _ _ hg
    rw [Array.getElem?_toList] at hy
    simp only [Sem.run_bind, run_agg hu, hagg, Result.andThen_ok, Bool.false_eq_true, if_false, hy]
    exact ⟨y, rfl, hrel⟩

theorem under_of_part {t : TypeId} {cs : List Value} {off : Nat} {v : Value} (h : partOf P t cs off = some v) : ∃ d, P.underlying t = some d := by
  unfold partOf at h
  cases hu : P.underlying t with
  | none => rw [hu] at h; cases h
  | some d => exact ⟨d, rfl⟩

theorem eField_sound {t : TypeId} {v v' : Value} {f : Nat} {r : ORes} (h : eField P t v f = some r) (hv : VRel ρ v v') :
    ∃ u u', r = .val u ∧ (Instr.field t v' f).run P w = .ok u' w ∧ VRel ρ u u' := by
  unfold eField at h
  split at h
  · rename_i cs fd hfd
    obtain ⟨fs, hu, hf⟩ := fieldOf_spec hfd
    split at h
    · rename_i u hp
      cases h
      cases hv with
      | agg _ ys hs hc =>
        obtain ⟨d, hd⟩ := under_of_part hp
        obtain ⟨u', hu', hrel⟩ := run_part (w := w) hd hp (LRel.of_array hs hc)
        refine ⟨u, u', rfl, ?_, hrel⟩
        unfold Instr.field
        simp only [Sem.run_bind, run_underlying hu, Result.andThen_ok, hf, asAgg, Sem.run_pure, hu']
    · cases h
  · cases h

theorem eIndexAddr_sound {t : TypeId} {v v' i i' : Value} {r : ORes} (h : eIndexAddr P t v i = some r) (hv : VRel ρ v v') (hi : VRel ρ i i') :
    ∃ u u', r = .val u ∧ (Instr.indexAt t v' i').run P w = .ok u' w ∧ VRel ρ u u' := by
  unfold eIndexAddr at h
  split at h
  · rename_i kk n
    cases hi
    split at h
    · rename_i len e k off hu
      split at h
      · rename_i ie hlt hie
        cases h
        have hlt : n < len := Nat.le_of_ble_eq_true hlt
        cases hv with
        | ptr _ _ p hp =>
          rw [add_some]
          refine ⟨_, .pointer (some ⟨p.b, p.o + (off + n * P.cellsOf e), none⟩), rfl, ?_, .ptr k (off + n * P.cellsOf e) p hp⟩
          unfold Instr.indexAt
          simp only [asIntOf, Sem.run_bind, Sem.run_pure, Result.andThen_ok, run_underlying hu, Instr.sureAddr]
          rw [if_pos (by constructor <;> (simp; try omega))]
          simp [run_size hie, add_some, Nat.add_assoc]
      · cases h
    · rename_i e k off len cap hu
      split at h
      · rename_i ie hlt hie
        cases h
        have hlt : n < len := Nat.le_of_ble_eq_true hlt
        cases hv with
        | slice _ _ _ _ p off' cap' hp hl ha hc hs =>
          have hoff : off' = p.o + off := ha.resolve_left (by omega)
          subst hoff
          rw [add_some]
          refine ⟨_, .pointer (some ⟨p.b, p.o + (off + n * P.cellsOf e), none⟩), rfl, ?_, .ptr k (off + n * P.cellsOf e) p hp⟩
          unfold Instr.indexAt
          simp only [asIntOf, Sem.run_bind, Sem.run_pure, Result.andThen_ok, run_underlying hu]
          rw [if_pos (by constructor <;> (simp; try omega))]
          simp [run_size hie, add_some, Nat.add_assoc]
      · cases h
    · cases h
  · cases h

/-! ### Strings, indexes, slices -/

theorem string_get (s : ByteArray) (n : Nat) : (s[n]? : Option UInt8) = s.data.toList[n]? := by
  rw [Array.getElem?_toList]
  by_cases h : n < s.size
  · have h' : n < s.data.size := h
    rw [getElem?_pos s n h, Array.getElem?_eq_getElem h']
    rfl
  · have h' : ¬ n < s.data.size := h
    rw [getElem?_neg s n h, Array.getElem?_eq_none (by omega)]

theorem string_cut (s : ByteArray) (l h : Nat) : s.extract l h = ⟨⟨(s.data.toList.drop l).take (h - l)⟩⟩ := by
  apply ByteArray.ext
  rw [ByteArray.data_extract]
  apply Array.toList_inj.1
  rw [Array.toList_extract, List.extract_eq_take_drop]

theorem eIndex_sound (hr : Rel P N ρ σ w) {o : Oper} {t : TypeId} {x y : Operand} {v i : Value} {r : ORes} (h : eIndex P σ T o t v i = some r) (ho : o.op = .index t x y) (hv : VRel ρ v (a.eval x)) (hi : VRel ρ i (a.eval y))
    (hx : ∀ x ∈ o.op.operands, ∀ t, x = .tmp t → TRs ρ T a t) :
    ∃ u u', r = .val u ∧ (execOp a.eval o).run P w = .ok (.value u') w ∧ VRel ρ u u' := by
  have hex : execOp a.eval o = (do pure (.value (← Instr.index t (a.eval x) (a.eval y))) : Sem Next) := by unfold execOp; rw [ho]
  unfold eIndex at h
  split at h
  · rename_i cs
    split at h
    · rename_i kk n
      split at h
      · rename_i len e hu
        split at h
        · rename_i hlt
          split at h
          · rename_i u hp
            cases h
            have hlt : n < len := Nat.le_of_ble_eq_true hlt
            generalize a.eval x = v' at *
            generalize a.eval y = i' at *
            cases hv with
            | agg _ ys hs hc =>
              cases hi
              obtain ⟨d, hd⟩ := under_of_part hp
              obtain ⟨ie, hie⟩ := info_of_under hd
              obtain ⟨u', hu', hrel⟩ := run_part (w := w) hd hp (LRel.of_array hs hc)
              refine ⟨u, u', rfl, ?_, hrel⟩
              rw [hex]
              unfold Instr.index
              simp only [asIntOf, Sem.run_bind, Sem.run_pure, Result.andThen_ok, run_underlying hu]
              rw [if_pos (by constructor <;> (simp; try omega))]
              simp only [Sem.run_bind, run_size hie, Result.andThen_ok]
              rw [show (Int.ofNat n).toNat = n from rfl, hu']
              rfl
          · cases h
        · cases h
      · cases h
    · cases h
  · rename_i s
    split at h
    · rename_i kk n
      split at h
      · rename_i hu
        split at h
        · rename_i b hb
          cases h
          generalize a.eval x = v' at *
          generalize a.eval y = i' at *
          cases hv
          cases hi
          refine ⟨_, _, rfl, ?_, .int .u8 b.toNat⟩
          rw [hex]
          unfold Instr.index
          simp only [asIntOf, Sem.run_bind, Sem.run_pure, Result.andThen_ok, run_underlying hu]
          rw [if_pos (by simp), show (Int.ofNat n).toNat = n from rfl, string_get, lget_mem hb]
          rfl
        · cases h
      · cases h
    · cases h
  · obtain ⟨u, rfl, h1, h2⟩ := eGeneric_sound hr h hx (by rw [ho]; intro cs b e; cases e)
    exact ⟨u, u, rfl, h1, h2⟩

/-- A bound of a slice expression, in the true frame. -/
def BoundRel (a : Act) (x : Option Operand) (d n : Nat) : Prop := (x = none ∧ n = d) ∨ ∃ o k, x = some o ∧ a.eval o = .int k n

theorem bound_sound (hr : Rel P N ρ σ w) {d n : Nat} {x : Option Operand} (h : bound σ T d x = some n) (hx : ∀ o, x = some o → ∀ t, o = .tmp t → TRs ρ T a t) : BoundRel a x d n := by
  unfold bound at h
  split at h
  · cases h; exact .inl ⟨rfl, rfl⟩
  · rename_i o
    split at h
    · rename_i k m ho
      cases h
      have := opd_sound hr ho (hx o rfl)
      generalize he : a.eval o = v' at this
      cases this
      exact .inr ⟨o, k, rfl, he⟩
    · cases h

theorem run_bound {v : Value} {k : IntKind} {n y : Nat} (h : v = .int k n) (hy : n ≤ y) (code : BoundsCode) (w : World) : (Instr.sliceBound v y code).run P w = .ok n w := by
  subst h
  unfold Instr.sliceBound
  simp only [asIntOf, Sem.run_bind, Sem.run_pure, Result.andThen_ok]
  rw [if_pos (by constructor <;> (simp; try omega))]
  rfl

theorem run_bounds {lo hi mx : Option Operand} (isSlice : Bool) {len cap l h m : Nat} (hok : okMax hi mx = true) (hl : BoundRel a lo 0 l) (hh : BoundRel a hi len h) (hm : BoundRel a mx cap m) (h1 : l ≤ h) (h2 : h ≤ m) (h3 : m ≤ cap) (w : World) :
    (Instr.sliceBounds isSlice len cap (lo.map a.eval) (hi.map a.eval) (mx.map a.eval)).run P w = .ok (l, h, m) w := by
  unfold Instr.sliceBounds
  rcases hl with ⟨rfl, rfl⟩ | ⟨ol, kl, rfl, hl⟩ <;> rcases hh with ⟨rfl, rfl⟩ | ⟨oh, kh, rfl, hh⟩ <;> rcases hm with ⟨rfl, rfl⟩ | ⟨om, km, rfl, hm⟩ <;>
    first
    | (cases hok; done)
    | (simp only [Option.map_none, Option.map_some, Sem.run_bind, Sem.run_pure, Result.andThen_ok]
       repeat (first | rfl | rw [run_bound hm h3] | rw [run_bound hh h2] | rw [run_bound hl h1] | simp only [Result.andThen_ok]))

theorem eSlice_sound (hr : Rel P N ρ σ w) {t : TypeId} {v v' : Value} {lo hi mx : Option Operand} {r : ORes} (h : eSlice P σ T t v lo hi mx = some r) (hv : VRel ρ v v')
    (hlo : ∀ o, lo = some o → ∀ t, o = .tmp t → TRs ρ T a t) (hhi : ∀ o, hi = some o → ∀ t, o = .tmp t → TRs ρ T a t) (hmx : ∀ o, mx = some o → ∀ t, o = .tmp t → TRs ρ T a t) :
    ∃ u u', r = .val u ∧ (Instr.sliceAt t v' (lo.map a.eval) (hi.map a.eval) (mx.map a.eval)).run P w = .ok u' w ∧ VRel ρ u u' := by
  unfold eSlice at h
  split at h
  · cases h
  · rename_i hok
    split at h
    · rename_i s hu
      split at h
      · cases h
      · split at h
        · rename_i l hh hl hhh
          split at h
          · rename_i hc
            cases h
            simp only [Bool.and_eq_true] at hc
            have h1 := Nat.le_of_ble_eq_true hc.1
            have h2 := Nat.le_of_ble_eq_true hc.2
            cases hv
            refine ⟨_, _, rfl, ?_, .str _⟩
            unfold Instr.sliceAt Instr.slice
            have hsz : s.size = s.data.toList.length := by rw [Array.length_toList]; rfl
            have hb := run_bounds (P := P) (a := a) (lo := lo) (hi := hi) (mx := none) (len := s.size) (cap := s.size) (l := l) (h := hh) (m := s.size) false hok (bound_sound hr hl hlo) (by rw [hsz]; exact bound_sound hr hhh hhi) (.inl ⟨rfl, rfl⟩) h1 (by rw [hsz]; exact h2) (Nat.le_refl _) w
            simp only [Option.map_none] at hb
            simp only [Sem.run_bind, run_underlying hu, Result.andThen_ok, Option.map_none, Option.isSome_none, Bool.false_eq_true, if_false, hb, string_cut, Sem.run_pure]
          · cases h
        · cases h
    · rename_i e hu
      split at h
      · rename_i ie hie hl hh hm
        cases h
        cases hv
        refine ⟨_, .slice none 0 0, rfl, ?_, .snil⟩
        unfold Instr.sliceAt Instr.slice
        have hb := run_bounds (P := P) (a := a) (lo := lo) (hi := hi) (mx := mx) (len := 0) (cap := 0) (l := 0) (h := 0) (m := 0) true hok (bound_sound hr hl hlo) (bound_sound hr hh hhi) (bound_sound hr hm hmx) (Nat.le_refl _) (Nat.le_refl _) (Nat.le_refl _) w
        simp only [Sem.run_bind, run_underlying hu, Result.andThen_ok, hb, run_size hie]
        rfl
      · cases h
    · rename_i e k off len cap hu
      cases hv with
      | slice _ _ _ _ p off' cap' hp hl ha hc hs =>
        split at h
        · rename_i ie krow klen kelem kcls kpos hie hg
          obtain ⟨hsz, _⟩ := hr.obj k p _ hp hg
          have finish : ∀ (l hh m mA : Nat) (hm0 : BoundRel a mx cap' m), bound σ T 0 lo = some l → bound σ T len hi = some hh → l ≤ hh → hh ≤ m → m ≤ cap' →
              (mA < unk → m - l = mA) → (unk ≤ mA → (m - l = 0 ∨ P.cellsOf e = p.sz) ∧ unk ≤ cap) →
              ∃ u', (Instr.sliceAt t (.slice (some ⟨p.b, off', none⟩) len cap') (lo.map a.eval) (hi.map a.eval) (mx.map a.eval)).run P w = .ok u' w ∧
                VRel ρ (.slice (some ⟨k, off + l * P.cellsOf e, none⟩) (hh - l) mA) u' := by
            intro l hh m mA hm0 hlo' hhi' h1 h2 h3 hx1 hx2
            have hb := run_bounds (P := P) (a := a) (lo := lo) (hi := hi) (mx := mx) (len := len) (cap := cap') (l := l) (h := hh) (m := m) true hok (bound_sound hr hlo' hlo) (bound_sound hr hhi' hhi) hm0 h1 h2 h3 w
            refine ⟨.slice (some ⟨p.b, if m = l then off' else off' + l * P.cellsOf e, none⟩) (hh - l) (m - l), ?_, ?_⟩
            · unfold Instr.sliceAt Instr.slice
              simp only [Sem.run_bind, run_underlying hu, Result.andThen_ok, hb, run_size hie]
              by_cases hml : m = l
              · simp only [if_pos hml]; rfl
              · simp only [if_neg hml, Option.map_some, add_some]; rfl
            · refine .slice k (off + l * P.cellsOf e) (hh - l) mA p _ (m - l) hp (by omega) ?_ hx1 fun hu' => ?_
              · by_cases hml : m = l
                · left; omega
                · right
                  rw [if_neg hml]
                  have := ha.resolve_left (by omega)
                  omega
              · obtain ⟨hx3, hx4⟩ := hx2 hu'
                by_cases hml : m = l
                · left; omega
                · right
                  rw [if_neg hml]
                  have h5 : P.cellsOf e = p.sz := hx3.resolve_left (by omega)
                  have h6 := (hs hx4).resolve_left (by omega)
                  have h7 : (m - l) * p.sz + l * p.sz = m * p.sz := by rw [← Nat.add_mul]; congr 1; omega
                  have h8 : m * p.sz ≤ cap' * p.sz := Nat.mul_le_mul_right _ h3
                  rw [h5]
                  omega
          split at h
          · rename_i hcap
            have hcap : cap < unk := Nat.le_of_ble_eq_true hcap
            have hcc := hc hcap
            split at h
            · rename_i l hh m hl' hh' hm'
              split at h
              · rename_i hcnd
                cases h
                simp only [Bool.and_eq_true] at hcnd
                obtain ⟨⟨c1, c2⟩, c3⟩ := hcnd
                have c1 := Nat.le_of_ble_eq_true c1
                have c2 := Nat.le_of_ble_eq_true c2
                have c3 := Nat.le_of_ble_eq_true c3
                obtain ⟨u', hu1, hu2⟩ := finish l hh m (m - l) (by rw [hcc]; exact bound_sound hr hm' hmx) hl' hh' c1 c2 (by omega) (fun _ => rfl) (fun h => by omega)
                exact ⟨_, u', rfl, hu1, hu2⟩
              · cases h
            · cases h
          · rename_i hcap
            have hcap : unk ≤ cap := by
              rcases Nat.lt_or_ge cap unk with h1 | h1
              · have := Nat.ble_eq_true_of_le h1
                rw [Nat.blt] at hcap
                rw [this] at hcap; cases hcap
              · exact h1
            split at h
            · rename_i l hh hl' hh'
              split at h
              · rename_i hcnd
                cases h
                simp only [Bool.and_eq_true] at hcnd
                obtain ⟨⟨c1, c2⟩, c3⟩ := hcnd
                have c1 := Nat.le_of_ble_eq_true c1
                have c2 := Nat.le_of_ble_eq_true c2
                have c3 := Nat.eq_of_beq_eq_true c3
                obtain ⟨u', hu1, hu2⟩ := finish l hh cap' unk (.inl ⟨rfl, rfl⟩) hl' hh' c1 (by omega) (Nat.le_refl _) (fun h => absurd h (Nat.lt_irrefl _)) (fun _ => ⟨.inr (by rw [c3, hsz]), hcap⟩)
                exact ⟨_, u', rfl, hu1, hu2⟩
              · cases h
            · rename_i l hh mo hl' hh'
              split at h
              · rename_i m hm'
                split at h
                · rename_i hcnd
                  cases h
                  simp only [Bool.and_eq_true] at hcnd
                  obtain ⟨⟨⟨c1, c2⟩, c3⟩, c4⟩ := hcnd
                  have c1 := Nat.le_of_ble_eq_true c1
                  have c2 := Nat.le_of_ble_eq_true c2
                  have c3 := Nat.le_of_ble_eq_true c3
                  have c4 : m < unk := Nat.le_of_ble_eq_true c4
                  have hm0 : BoundRel a (some mo) cap' m := by
                    rcases bound_sound (a := a) hr hm' hmx with ⟨h1, _⟩ | h1
                    · cases h1
                    · exact .inr h1
                  obtain ⟨u', hu1, hu2⟩ := finish l hh m (m - l) hm0 hl' hh' c1 c2 (by omega) (fun _ => rfl) (fun h3 => absurd h3 (by omega))
                  exact ⟨_, u', rfl, hu1, hu2⟩
                · cases h
              · cases h
            · cases h
        · cases h
    · rename_i n e k off hu
      cases hv with
      | ptr _ _ p hp =>
        split at h
        · cases h
        · rename_i ie hie
          split at h
          · rename_i l hh m hl' hh' hm'
            split at h
            · rename_i hcnd
              cases h
              simp only [Bool.and_eq_true] at hcnd
              obtain ⟨⟨⟨c1, c2⟩, c3⟩, c4⟩ := hcnd
              have c1 := Nat.le_of_ble_eq_true c1
              have c2 := Nat.le_of_ble_eq_true c2
              have c3 := Nat.le_of_ble_eq_true c3
              have c4 : m < unk := Nat.le_of_ble_eq_true c4
              have hb := run_bounds (P := P) (a := a) (lo := lo) (hi := hi) (mx := mx) (len := n) (cap := n) (l := l) (h := hh) (m := m) false hok (bound_sound hr hl' hlo) (bound_sound hr hh' hhi) (bound_sound hr hm' hmx) c1 c2 c3 w
              refine ⟨_, .slice (some ⟨p.b, if m = l then p.o + off else p.o + off + l * P.cellsOf e, none⟩) (hh - l) (m - l), rfl, ?_, ?_⟩
              · unfold Instr.sliceAt
                simp only [Sem.run_bind, run_underlying hu, Result.andThen_ok, Instr.sureAddr, Sem.run_pure, hb, run_size hie]
                by_cases hml : m = l
                · simp only [if_pos hml]
                · simp only [if_neg hml, add_some]
              · refine .slice k (off + l * P.cellsOf e) (hh - l) (m - l) p _ (m - l) hp (by omega) ?_ (fun _ => rfl) fun hu' => ?_
                · by_cases hml : m = l
                  · left; omega
                  · right; rw [if_neg hml]; omega
                · exact absurd hu' (by omega)
            · cases h
          · cases h
    · cases h

end
end Go.Ke

namespace Go.Ke
open Go.RowKit (Below)

section
variable {P : Program} {N : Nat} {ρ : Loc} {σ : St} {w : World} {T : Tr Value} {a : Act}

/-! ### Equality by cells -/

theorem keyKind_spec {t : TypeId} {d : TypeDesc} (h : keyKind P t = some d) : P.underlying t = some d ∧ (d = .bool ∨ (∃ k, d = .int k) ∨ d = .string) := by
  unfold keyKind at h
  split at h <;> first | (cases h; rename_i hu; exact ⟨hu, by simp⟩) | cases h

theorem list_beq (a b : ByteArray) : (a.data.toList == b.data.toList) = (a == b) := by
  rw [beq_toListBytes, ByteArray.toList_eq, ByteArray.toList_eq]

theorem same1_sound {t : TypeId} {d : TypeDesc} (hu : P.underlying t = some d) {x y x' y' : Value} {r : Bool} (h : same1 d x y = some r) (hx : VRel ρ x x') (hy : VRel ρ y y') (n : Nat) (w : World) :
    (Op.equalIn (n + 1) t x' y').run P w = .ok r w ∧ (Instr.sameNow d x' y' = some r) := by
  unfold same1 at h
  split at h
  · cases h; cases hx; cases hy
    exact ⟨run_equalIn_bool w n t _ _ hu, rfl⟩
  · split at h
    · rename_i hk
      cases h; cases hx; cases hy
      obtain rfl := of_decide_eq_true hk
      exact ⟨run_equalIn_int w n t _ _ _ _ hu, by simp [Instr.sameNow]⟩
    · cases h
  · cases h; cases hx; cases hy
    rename_i s s'
    refine ⟨?_, ?_⟩
    · rw [run_equalIn_string w n t _ _ hu, ByteArray.toList_eq, ByteArray.toList_eq]
    · simp only [Instr.sameNow, list_beq]
  · cases h

theorem eqFs_cons (self : TypeId → Value → Value → Option Bool) (xs ys : List Value) (f : Field) (l : List Field) : eqFs P self xs ys (f :: l) = match f.name != "_" with
    | false => none
    | true => match partOf P f.type xs f.offset, partOf P f.type ys f.offset with
      | some u, some v => match self f.type u v with
        | some true => eqFs P self xs ys l
        | some false => some false
        | none => none
      | _, _ => none := rfl

theorem eqIs_cons (self : TypeId → Value → Value → Option Bool) (e : TypeId) (xs ys : List Value) (i : Nat) (l : List Nat) : eqIs P self e xs ys (i :: l) = match partOf P e xs (i * P.cellsOf e), partOf P e ys (i * P.cellsOf e) with
    | some u, some v => match self e u v with
      | some true => eqIs P self e xs ys l
      | some false => some false
      | none => none
    | _, _ => none := rfl

def EqOK (P : Program) (ρ : Loc) (d : Nat) (self : TypeId → Value → Value → Option Bool) : Prop := ∀ t u v u' v' r w, self t u v = some r → VRel ρ u u' → VRel ρ v v' → (Op.equalIn d t u' v').run P w = .ok r w

theorem eqFs_sound {d : Nat} {self : TypeId → Value → Value → Option Bool} (hs : EqOK P ρ d self) (w : World) {xs ys : List Value} {cx cy : Array Value} (hx : LRel ρ xs cx.toList) (hy : LRel ρ ys cy.toList) : ∀ (l : List Field) {r : Bool}, eqFs P self xs ys l = some r → (Op.eqFields d cx cy l).run P w = .ok r w := by
  intro l
  induction l with
  | nil => intro r h; cases h; rfl
  | cons f l ih =>
    intro r h
    rw [eqFs_cons] at h
    split at h
    · cases h
    · rename_i hn
      have hn' : f.name ≠ "_" := by simpa using hn
      split at h
      · rename_i u v hu hv
        obtain ⟨du, hdu⟩ := under_of_part hu
        obtain ⟨u', pu, ru⟩ := run_part (w := w) hdu hu hx
        obtain ⟨v', pv, rv⟩ := run_part (w := w) hdu hv hy
        rw [Op.eqFields, if_pos hn']
        split at h
        · rename_i hq
          simp only [Sem.run_bind, pu, pv, Result.andThen_ok, hs _ _ _ _ _ _ w hq ru rv, Bool.not_true, Bool.false_eq_true, if_false]
          exact ih h
        · rename_i hq
          cases h
          simp only [Sem.run_bind, pu, pv, Result.andThen_ok, hs _ _ _ _ _ _ w hq ru rv, Bool.not_false, if_true, Sem.run_pure]
        · cases h
      · cases h

theorem eqIs_sound {d : Nat} {self : TypeId → Value → Value → Option Bool} (hs : EqOK P ρ d self) (w : World) {e : TypeId} {xs ys : List Value} {cx cy : Array Value} (hx : LRel ρ xs cx.toList) (hy : LRel ρ ys cy.toList) : ∀ (l : List Nat) {r : Bool}, eqIs P self e xs ys l = some r → (Op.eqItems d e (P.cellsOf e) cx cy l).run P w = .ok r w := by
  intro l
  induction l with
  | nil => intro r h; cases h; rfl
  | cons i l ih =>
    intro r h
    rw [eqIs_cons] at h
    split at h
    · rename_i u v hu hv
      obtain ⟨du, hdu⟩ := under_of_part hu
      obtain ⟨u', pu, ru⟩ := run_part (w := w) hdu hu hx
      obtain ⟨v', pv, rv⟩ := run_part (w := w) hdu hv hy
      rw [Op.eqItems]
      split at h
      · rename_i hq
        simp only [Sem.run_bind, pu, pv, Result.andThen_ok, hs _ _ _ _ _ _ w hq ru rv, Bool.not_true, Bool.false_eq_true, if_false]
        exact ih h
      · rename_i hq
        cases h
        simp only [Sem.run_bind, pu, pv, Result.andThen_ok, hs _ _ _ _ _ _ w hq ru rv, Bool.not_false, if_true, Sem.run_pure]
      · cases h
    · cases h

theorem eqV_succ (n : Nat) (t : TypeId) (a b : Value) : eqV P (n + 1) t a b = match P.underlying t with
    | some .bool => same1 .bool a b
    | some (.int k) => same1 (.int k) a b
    | some .string => same1 .string a b
    | some (.struct fs) => match a, b with
      | .agg xs, .agg ys => match P.stoodInHeld t with
        | false => eqFs P (eqV P n) xs.toList ys.toList fs.toList
        | true => none
      | _, _ => none
    | some (.array len e) => match a, b with
      | .agg xs, .agg ys => match P.info? e with
        | some _ => eqIs P (eqV P n) e xs.toList ys.toList (List.range len)
        | none => none
      | _, _ => none
    | _ => none := rfl

theorem eqV_sound : ∀ (n d : Nat), n ≤ d → EqOK P ρ d (eqV P n) := by
  intro n
  induction n with
  | zero => intro d _ t u v u' v' r w h; cases h
  | succ n ih =>
    intro d hd t u v u' v' r w h hx hy
    obtain ⟨d, rfl⟩ : ∃ k, d = k + 1 := ⟨d - 1, by omega⟩
    have ih := ih d (by omega)
    rw [eqV_succ] at h
    split at h
    · rename_i hu; exact (same1_sound hu h hx hy d w).1
    · rename_i hu; exact (same1_sound hu h hx hy d w).1
    · rename_i hu; exact (same1_sound hu h hx hy d w).1
    · rename_i fs hu
      split at h
      · rename_i xs ys
        split at h
        · rename_i hst
          cases hx with
          | agg _ xs' hs hc =>
            cases hy with
            | agg _ ys' hs' hc' =>
              have hf : P.fieldsOf t = fs := by unfold Program.fieldsOf; rw [hu]
              rw [run_equalIn_struct w d t xs' ys' (by rw [hu, hf]) hst, hf]
              exact eqFs_sound ih w (LRel.of_array hs hc) (LRel.of_array hs' hc') _ h
        · cases h
      · cases h
    · rename_i len e hu
      split at h
      · rename_i xs ys
        split at h
        · rename_i i hi
          cases hx with
          | agg _ xs' hs hc =>
            cases hy with
            | agg _ ys' hs' hc' =>
              rw [run_equalIn_array w d xs' ys' hu hi]
              exact eqIs_sound ih w (LRel.of_array hs hc) (LRel.of_array hs' hc') _ h
        · cases h
      · cases h
    · cases h

theorem keyEq_sound {t : TypeId} {x y x' y' : Value} {r : Bool} (h : keyEq P t x y = some r) (hx : VRel ρ x x') (hy : VRel ρ y y') (w : World) :
    (Op.equal t x' y').run P w = .ok r w ∧ ∀ d, P.underlying t = some d → (Instr.sameNow d x' y' = some r ∨ Instr.sameNow d x' y' = none) := by
  refine ⟨eqV_sound 8 10000 (by decide) t x y x' y' r w h hx hy, fun d hd => ?_⟩
  unfold keyEq at h
  rw [eqV_succ, hd] at h
  split at h
  · rename_i hu; cases hu; exact .inl (same1_sound hd h hx hy 0 w).2
  · rename_i hu; cases hu; exact .inl (same1_sound hd h hx hy 0 w).2
  · rename_i hu; cases hu; exact .inl (same1_sound hd h hx hy 0 w).2
  · rename_i hu; cases hu; exact .inr rfl
  · rename_i hu; cases hu; exact .inr rfl
  · cases h

/-! ### Binary operations -/

theorem intBin_sound {op : BinOp} {k : IntKind} {x y : Int} {v : Value} (h : intBin op k x y = some v) (t : TypeId) (w : World) : (binOp op t (.int k x) (.int k y)).run P w = .ok v w ∧ plain1 v = true := by
  unfold intBin at h
  split at h <;> first | (cases h; refine ⟨?_, rfl⟩; simp [binOp, Op.intArith, Op.intCmp]; done) | cases h

theorem eqGuard_int (op : BinOp) (t : TypeId) (x y : Operand) (k k' : IntKind) (m n : Int) (w : World) : (eqGuard op t x y (.int k m) (.int k' n)).run P w = .ok () w := by
  cases op <;> rfl

theorem nilEq_sound {t : TypeId} {d : TypeDesc} (hu : P.underlying t = some d) {x y x' y' : Value} {r : Bool} (h : nilEq d x y = some r) (hx : VRel ρ x x') (hy : VRel ρ y y') (w : World) (o1 o2 : Operand) (op : BinOp) :
    (eqGuard op t o1 o2 x' y').run P w = .ok () w ∧ (binOp .eql t x' y').run P w = .ok (.bool r) w ∧ (binOp .neq t x' y').run P w = .ok (.bool (!r)) w := by
  have fin : (∀ n, (Op.equalIn (n + 1) t x' y').run P w = .ok r w) → (Op.equal t x' y').run P w = .ok r w := fun h => h 9999
  unfold nilEq at h
  split at h <;> first
    | (cases h; done)
    | (cases h
       cases hx <;> cases hy <;>
        (have he := fin (fun n => by simp only [Op.equalIn, Sem.run_bind, run_underlying hu, Result.andThen_ok]; rfl)
         refine ⟨by cases op <;> rfl, ?_, ?_⟩ <;> simp only [binOp, Sem.run_bind, he, Result.andThen_ok, Sem.run_pure]))

theorem samePtr_sound {t : TypeId} {d : TypeDesc} (hu : P.underlying t = some d) {p q : Addr} {x' y' : Value} (h : samePtr P d p q = true) (hx : VRel ρ (.pointer (some p)) x') (hy : VRel ρ (.pointer (some q)) y') (w : World) (o1 o2 : Operand) (op : BinOp) :
    (eqGuard op t o1 o2 x' y').run P w = .ok () w ∧ (binOp .eql t x' y').run P w = .ok (.bool true) w ∧ (binOp .neq t x' y').run P w = .ok (.bool false) w := by
  unfold samePtr at h
  split at h
  · rename_i e
    rw [Bool.and_eq_true] at h
    obtain ⟨h1, h2⟩ := h
    obtain rfl := of_decide_eq_true h2
    obtain ⟨j, hj⟩ := Option.isSome_iff_exists.mp h1
    cases hx with
    | ptr k off a ha =>
      cases hy with
      | ptr _ _ b hb =>
        rw [ha] at hb
        cases hb
        have he : (Op.equal t (.pointer (some ⟨a.b, a.o + off, none⟩)) (.pointer (some ⟨a.b, a.o + off, none⟩))).run P w = .ok true w := by
          have h : ∀ n : Nat, (Op.equalIn (n + 1) t (.pointer (some ⟨a.b, a.o + off, none⟩)) (.pointer (some ⟨a.b, a.o + off, none⟩))).run P w = .ok true w := fun n => by
            simp [Op.equalIn, run_underlying hu, sizeOf, typeInfo, hj, run_sameAddr_same]
          exact h 9999
        refine ⟨by cases op <;> rfl, ?_, ?_⟩ <;> simp only [binOp, Sem.run_bind, he, Result.andThen_ok, Sem.run_pure]
        rfl
  · cases h

end
end Go.Ke
