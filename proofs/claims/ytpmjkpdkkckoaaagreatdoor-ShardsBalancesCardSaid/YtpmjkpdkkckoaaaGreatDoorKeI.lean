/- Each operation of the abstract run, against the model's: new blocks and append. No condition. -/
import Derived.Test.YtpmjkpdkkckoaaaGreatDoorKeH
namespace Go.Ke
open Go.RowKit (Below)

/-- What an operation's run must come to. -/
def OpRel (P : Program) (N : Nat) (ρ : Loc) (σ : St) (w : World) (s : Sem Next) : ORes → Prop
  | .val v => ∃ v', s.run P w = .ok (.value v') w ∧ VRel ρ v v'
  | .skip => False
  | .new b mk => ∃ ob v' w', s.run P w = .ok (.value v') w' ∧ w'.heap = w.heap.push ob ∧ w'.os = w.os ∧ w'.tape = w.tape ∧ w'.output = w.output ∧ BornRel P ρ b ob ∧
      VRel (ρ.ext σ.next ⟨w.heap.size, 0, objCells ob, bornSz P b⟩) (mk.val σ.next) v'
  | .upd v σ' => ∃ nx v' w' ρ', s.run P w = .ok nx w' ∧ (nx = .value v' ∨ (nx = .skip ∧ v' = undef)) ∧ Grew ρ ρ' σ σ' ∧ VRel ρ' v v' ∧ Rel P N ρ' σ' w' ∧ Below N w w'
  | .call f args => ∃ args' : List Value, s.run P w = (callFunc f args'.toArray).run P w ∧ LRel ρ args args'

section
variable {P : Program} {N : Nat} {ρ : Loc} {σ : St} {w : World} {T : Tr Value} {a : Act}

theorem ext_self (ρ : Loc) (k : Nat) (p : Pl) : ρ.ext k p k = some p := by unfold Loc.ext; rw [if_pos rfl]

theorem mk_ptr (σ : St) (p : Pl) (h : p.o = 0) : VRel (ρ.ext σ.next p) (Mk.ptr.val σ.next) (.pointer (some ⟨p.b, 0, none⟩)) := by
  have := VRel.ptr (ρ := ρ.ext σ.next p) σ.next 0 p (ext_self _ _ _)
  rw [h] at this
  exact this

theorem mk_map (σ : St) (p : Pl) : VRel (ρ.ext σ.next p) (Mk.map.val σ.next) (.map (some p.b)) := .map σ.next p (ext_self _ _ _)

theorem mk_slice (σ : St) (p : Pl) (h : p.o = 0) {len cap cap' : Nat} (hl : len ≤ cap') (hc : cap < unk → cap' = cap) (hs : unk ≤ cap → cap' * p.sz ≤ p.S) :
    VRel (ρ.ext σ.next p) ((Mk.slice len cap).val σ.next) (.slice (some ⟨p.b, 0, none⟩) len cap') :=
  .slice σ.next 0 len cap p 0 cap' (ext_self _ _ _) hl (.inr (by omega)) hc fun hu => .inr (by have := hs hu; omega)

/-- A row of cells, born as it stands. -/
theorem born_row {cells : List Value} {c : Array Value} (elem : TypeId) (h : LRel ρ cells c.toList) : BornRel P ρ (.row cells elem) (.cells c elem (0, 0)) := by
  have hl := h.length
  have hl' : c.toList.length = c.size := by simp
  refine ⟨c, (0, 0), rfl, by omega, fun i _ => by simp, fun i x hx => ?_⟩
  obtain ⟨y, hy, hr⟩ := h.get i x hx
  exact ⟨y, by rw [← Array.getElem?_toList]; exact hy, hr⟩

theorem born_row_more {cells : List Value} {c : Array Value} (elem : TypeId) (h : LRel ρ cells (c.toList.take cells.length)) (hl : cells.length ≤ c.size) : BornRel P ρ (.row cells elem) (.cells c elem (0, 0)) := by
  refine ⟨c, (0, 0), rfl, hl, fun i _ => by simp, fun i x hx => ?_⟩
  obtain ⟨y, hy, hr⟩ := h.get i x hx
  rw [List.getElem?_take] at hy
  split at hy
  · exact ⟨y, by rw [← Array.getElem?_toList]; exact hy, hr⟩
  · cases hy

theorem run_newRow (elem : TypeId) (c : Array Value) (w : World) : (newRow elem c).run P w = .ok ⟨w.heap.size, 0, none⟩ { w with heap := w.heap.push (.cells c elem (0, 0)) } := by
  simp [newRow]

/-! ### Cells of zeros -/

theorem repL_zero (l : List Value) : repL l 0 = [] := rfl
theorem repL_succ (l : List Value) (n : Nat) : repL l (n + 1) = l ++ repL l n := rfl
theorem repL_length (l : List Value) : ∀ n, (repL l n).length = n * l.length := by
  intro n
  induction n with
  | zero => simp [repL_zero]
  | succ n ih => rw [repL_succ, List.length_append, ih, Nat.succ_mul]; omega
theorem repL_get (l : List Value) : ∀ (n i : Nat), i < n * l.length → (repL l n)[i]? = l[i % l.length]? := by
  intro n
  induction n with
  | zero => intro i h; omega
  | succ n ih =>
    intro i h
    rw [repL_succ]
    by_cases hi : i < l.length
    · rw [List.getElem?_append_left hi, Nat.mod_eq_of_lt hi]
    · rw [List.getElem?_append_right (by omega), ih _ (by rw [Nat.add_mul, Nat.one_mul] at h; omega)]
      rw [show i % l.length = (i - l.length) % l.length from Nat.mod_eq_sub_mod (by omega)]

theorem zeros_rel {z : List Value} (hp : allPlain z = true) {vz : Array Value} (hz : vz.toList = z) (n m : Nat) (hn : n = m * z.length) :
    LRel ρ (repL z m) ((Array.range n).map (vz[· % vz.size]!)).toList := by
  subst hz
  have hsz : vz.toList.length = vz.size := by simp
  rw [hsz] at hn
  refine LRel.of_get (by rw [repL_length, hsz]; simp [hn]) fun i x y hx hy => ?_
  have hi : i < m * vz.size := by
    have := (List.getElem?_eq_some_iff.1 hx).1
    rw [repL_length, hsz] at this
    exact this
  rw [repL_get _ _ _ (by rw [hsz]; exact hi), hsz] at hx
  have hlt : i % vz.size < vz.size := by
    refine Nat.mod_lt _ ?_
    rcases Nat.eq_zero_or_pos vz.size with h0 | h0
    · rw [h0] at hi; omega
    · exact h0
  rw [Array.getElem?_toList, Array.getElem?_map, Array.getElem?_range, if_pos (by omega)] at hy
  simp only [Option.map_some, Option.some.injEq] at hy
  rw [getElem!_pos vz _ hlt] at hy
  rw [Array.getElem?_toList, Array.getElem?_eq_getElem hlt] at hx
  cases hx
  subst hy
  exact plain1_rel ρ (allPlain_mem hp _ (by simp))

theorem i64_small {n : Nat} (h : n ≤ 281474976710656) : IntKind.i64.wrap (n : Int) = n := by rw [IntKind.wrap_i64]; omega

theorem eMakeSlice_sound {t : TypeId} {l c l' c' : Value} {r : ORes} (h : eMakeSlice P t l c = some r) (hl : VRel ρ l l') (hc : VRel ρ c c') :
    OpRel P N ρ σ w (do pure (.value (← Instr.makeSlice t l' c'))) r := by
  unfold eMakeSlice at h
  split at h
  · rename_i k1 n k2 m
    cases hl
    cases hc
    split at h
    · rename_i e hse
      have hu : P.underlying t = some (.slice e) := by
        unfold sliceElem at hse
        split at hse
        · rename_i e' hu; cases hse; exact hu
        · cases hse
      split at h
      · rename_i z i hz hi
        obtain ⟨iz, vz, hiz, hvz, hcz, hpz⟩ := zeroCells_spec hz
        rw [hi] at hiz
        cases hiz
        split at h
        · cases h
        · rename_i hcond
          cases h
          simp only [Bool.and_eq_true] at hcond
          obtain ⟨⟨⟨c1, c2⟩, c3⟩, c4⟩ := hcond
          have c1 := Nat.eq_of_beq_eq_true c1
          have c2 := Nat.le_of_ble_eq_true c2
          have c3 := Nat.le_of_ble_eq_true c3
          have c4 := Nat.le_of_ble_eq_true c4
          have hm : IntKind.i64.wrap (Int.ofNat m) = m := i64_small c4
          have hn : IntKind.i64.wrap (Int.ofNat n) = n := i64_small (by omega)
          have hb : ¬ ((i.bytes : Int) * (m : Int) > 2 ^ 48) := by
            have h1 : ((i.bytes * m : Nat) : Int) ≤ ((281474976710656 : Nat) : Int) := Int.ofNat_le.2 c3
            rw [Int.natCast_mul] at h1
            have h2 : (2 : Int) ^ 48 = 281474976710656 := by decide
            rw [h2]
            generalize (i.bytes : Int) * (m : Int) = q at *
            omega
          refine ⟨.cells ((Array.range (m * P.cellsOf e)).map (vz.cells[· % vz.cells.size]!)) e (0, 0), .slice (some ⟨w.heap.size, 0, none⟩) n m, { w with heap := w.heap.push (.cells ((Array.range (m * P.cellsOf e)).map (vz.cells[· % vz.cells.size]!)) e (0, 0)) }, ?_, rfl, rfl, rfl, rfl, born_row e (zeros_rel hpz hcz _ m (by rw [c1])), ?_⟩
          · unfold Instr.makeSlice
            simp only [Sem.run_bind, run_underlying hu, Result.andThen_ok, asInt, asIntOf, Sem.run_pure, run_info hi, hm, hn]
            have hF : (decide ((m : Int) < 0) || decide ((i.bytes : Int) * (m : Int) > 2 ^ 48) || decide ((n : Int) < 0) || decide ((n : Int) > (m : Int))) = false := by
              simp only [Bool.or_eq_false_iff, decide_eq_false_iff_not]
              exact ⟨⟨⟨by omega, hb⟩, by omega⟩, by omega⟩
            rw [hF]
            simp only [Bool.false_eq_true, if_false, Sem.run_bind, run_askRoom, Result.andThen_ok, run_size hi, Int.toNat_natCast]
            by_cases h0 : m * P.cellsOf e = 0
            · rw [if_pos h0]
              have hr0 : Array.range 0 = (#[] : Array Nat) := rfl
              simp only [Sem.run_bind, Sem.run_pure, Result.andThen_ok, run_newRow, h0, hr0, Array.map_empty]
            · rw [if_neg h0]
              simp only [Sem.run_bind, Sem.run_pure, Result.andThen_ok, run_newRow, run_zero hi hvz]
          · exact mk_slice σ _ rfl c2 (fun _ => rfl) fun h => by unfold unk at h; omega
      · cases h
    · cases h
  · cases h

theorem sliceElem_spec {t e : TypeId} (h : sliceElem P t = some e) : P.underlying t = some (.slice e) := by
  unfold sliceElem at h
  split at h
  · rename_i e' hu; cases h; exact hu
  · cases h

theorem eBuildSlice_sound (hr : Rel P N ρ σ w) {t : TypeId} {len : Nat} {parts : Array (Nat × Operand)} {r : ORes} (h : eBuildSlice P σ T t len parts.toList = some r) (hx : ∀ x ∈ parts.toList, ∀ t, x.2 = .tmp t → TRs ρ T a t) :
    OpRel P N ρ σ w (do pure (.value (← Instr.buildSlice t len (parts.map fun (i, x) => (i, a.eval x))))) r := by
  unfold eBuildSlice at h
  split at h
  · rename_i e ps hse hps
    have hu := sliceElem_spec hse
    split at h
    · rename_i z hz
      obtain ⟨i, vz, hi, hvz, hcz, hpz⟩ := zeroCells_spec hz
      split at h
      · cases h
      · rename_i hcond
        simp only [Bool.and_eq_true] at hcond
        have c1 := Nat.eq_of_beq_eq_true hcond.1
        have c2 := Nat.le_of_ble_eq_true hcond.2
        split at h
        · rename_i cells hf
          cases h
          have hp := partVals_sound hr hps hx
          have hzr := zeros_rel (ρ := ρ) hpz hcz (len * P.cellsOf e) len (by rw [c1])
          obtain ⟨c', h1, h2⟩ := fill_sound _ hp hf hzr
          refine ⟨.cells c' e (0, 0), .slice (some ⟨w.heap.size, 0, none⟩) len len, { w with heap := w.heap.push (.cells c' e (0, 0)) }, ?_, rfl, rfl, rfl, rfl, born_row e h2, mk_slice σ _ rfl (Nat.le_refl _) (fun _ => rfl) fun h => ?_⟩
          · unfold Instr.buildSlice
            simp only [Sem.run_bind, run_underlying hu, Result.andThen_ok, run_size hi]
            rw [if_neg (by omega)]
            by_cases h0 : len * P.cellsOf e = 0
            · rw [if_pos h0]
              have hr0 : Array.range 0 = (#[] : Array Nat) := rfl
              rw [h0, hr0] at h1
              simp only [Array.map_empty] at h1
              simp only [Sem.run_pure, Result.andThen_ok, h0, hr0, Array.map_empty, parts_list, h1, Sem.run_bind, run_newRow]
            · rw [if_neg h0]
              simp only [Sem.run_bind, Sem.run_pure, Result.andThen_ok, run_zero hi hvz, parts_list, h1, run_newRow]
          · have h3 := h2.length
            have h4 : cells.length = len * P.cellsOf e := by
              have : ∀ (l : List (Nat × Value)) (z cs : List Value), fillL (fun i => some (i * P.cellsOf e, P.cellsOf e)) l z = some cs → cs.length = z.length := by
                intro l
                induction l with
                | nil => intro z cs h; cases h; rfl
                | cons x l ih =>
                  intro z cs h
                  rw [fillL_cons] at h
                  simp only at h
                  split at h
                  · cases h
                  · rw [ih _ _ h, splice_length]
              rw [this _ _ _ hf, repL_length, c1]
            show len * P.cellsOf e ≤ c'.size
            have h5 : c'.toList.length = c'.size := by simp
            omega
        · cases h
    · cases h
  · cases h

theorem eAlloc_sound {e : TypeId} {z : List Value} (hz : zeroCellsOf P e = some z) : OpRel P N ρ σ w (do pure (.value (← Instr.alloc e true (.tuple #[])))) (.new (.row z e) .ptr) := by
  obtain ⟨i, vz, hi, hvz, hcz, hpz⟩ := zeroCells_spec hz
  refine ⟨.cells vz.cells e (0, 0), .pointer (some ⟨w.heap.size, 0, none⟩), { w with heap := w.heap.push (.cells vz.cells e (0, 0)) }, ?_, rfl, rfl, rfl, rfl, born_row e (by rw [hcz]; exact allPlain_rel ρ hpz), mk_ptr σ _ rfl⟩
  unfold Instr.alloc
  simp only [Sem.run_bind, run_zero hi hvz, Result.andThen_ok, newVar, run_newRow, Sem.run_pure]

theorem eBox_sound {e : TypeId} {v v' : Value} (hv : VRel ρ v v') : OpRel P N ρ σ w (do pure (.value (← Instr.box e v'))) (.new (.row v.cells.toList e) .ptr) := by
  refine ⟨.cells v'.cells e (0, 0), .pointer (some ⟨w.heap.size, 0, none⟩), { w with heap := w.heap.push (.cells v'.cells e (0, 0)) }, ?_, rfl, rfl, rfl, rfl, born_row e hv.cells, mk_ptr σ _ rfl⟩
  unfold Instr.box
  simp only [Sem.run_bind, Result.andThen_ok, newVar, run_newRow, Sem.run_pure]

theorem eMakeMap_sound (t : TypeId) : OpRel P N ρ σ w (do pure (.value (← Instr.makeMap t none))) (.new .map .map) := by
  refine ⟨.map #[] 0, .map (some w.heap.size), { w with heap := w.heap.push (.map #[] 0) }, ?_, rfl, rfl, rfl, rfl, rfl, mk_map σ ⟨w.heap.size, 0, 0, 0⟩⟩
  unfold Instr.makeMap
  simp

theorem eRange_sound (hr : Rel P N ρ σ w) {t : TypeId} {v v' : Value} {r : ORes} (h : eRange P t σ v = some r) (hv : VRel ρ v v') : OpRel P N ρ σ w (do pure (.value (← Instr.range t v'))) r := by
  unfold eRange at h
  split at h
  · rename_i s hu
    cases h
    cases hv
    refine ⟨.stringIter s 0, .pointer (some ⟨w.heap.size, 0, none⟩), { w with heap := w.heap.push (.stringIter s 0) }, ?_, rfl, rfl, rfl, rfl, rfl, mk_ptr σ _ rfl⟩
    unfold Instr.range
    simp [run_underlying hu]
  · rename_i k e hu
    cases h
    cases hv
    refine ⟨.mapIter none 0 #[] 0, .pointer (some ⟨w.heap.size, 0, none⟩), { w with heap := w.heap.push (.mapIter none 0 #[] 0) }, ?_, rfl, rfl, rfl, rfl, ⟨none, rfl, trivial⟩, mk_ptr σ _ rfl⟩
    unfold Instr.range
    simp [run_underlying hu]
  · rename_i k e m hu
    split at h
    · rename_i es clock hm
      cases h
      cases hv with
      | map _ p hp =>
        obtain ⟨_, es', hb, _⟩ := aMap_sound hr hm hp
        refine ⟨.mapIter (some p.b) clock #[] clock, .pointer (some ⟨w.heap.size, 0, none⟩), { w with heap := w.heap.push (.mapIter (some p.b) clock #[] clock) }, ?_, rfl, rfl, rfl, rfl, ⟨some p.b, rfl, p, hp, rfl⟩, mk_ptr σ _ rfl⟩
        unfold Instr.range
        simp only [Sem.run_bind, run_underlying hu, Result.andThen_ok, run_getMap hb, Sem.run_pure, run_newObj]
    · cases h
  · cases h

/-! ### Append -/

theorem growBy_le (newLen : Nat) : ∀ (rounds c : Nat), c ≤ newLen + (newLen + 768) / 4 → Builtin.growBy newLen rounds c ≤ newLen + (newLen + 768) / 4 := by
  intro rounds
  induction rounds with
  | zero => intro c h; exact h
  | succ n ih =>
    intro c h
    rw [Builtin.growBy]
    split
    · exact h
    · exact ih _ (by omega)

theorem nextcap_le {need cap : Nat} (h : cap < need) : Builtin.nextslicecap need cap ≤ 4 * need + 4000 := by
  unfold Builtin.nextslicecap
  split
  · omega
  · split
    · omega
    · have := growBy_le need 4 cap (by omega)
      omega

theorem roomFor_spec {need bytes cap : Nat} (h : roomFor need bytes = true) (hc : cap < need) : ¬ ((need : Int) > IntKind.i64.max) ∧ ¬ (Builtin.nextslicecap need cap * bytes > 2 ^ 48) := by
  unfold roomFor at h
  simp only [Bool.and_eq_true] at h
  have h1 := Nat.le_of_ble_eq_true h.1
  have h2 := Nat.le_of_ble_eq_true h.2
  have h3 := nextcap_le hc
  have h4 : Builtin.nextslicecap need cap * bytes ≤ (4 * need + 4000) * bytes := Nat.mul_le_mul_right _ h3
  refine ⟨?_, ?_⟩
  · have : IntKind.i64.max = 9223372036854775807 := by decide
    rw [this]
    omega
  · have : (2 : Nat) ^ 48 = 281474976710656 := by decide
    rw [this]
    generalize Builtin.nextslicecap need cap * bytes = q at *
    omega

theorem appTypes_spec {argTypes : Array TypeId} {elem : TypeId} {i : TypeInfo} (h : appTypes P argTypes = some (elem, i)) :
    ∃ st xt xd z vz, argTypes[0]? = some st ∧ argTypes[1]? = some xt ∧ P.underlying st = some (.slice elem) ∧ P.underlying xt = some xd ∧ (∀ k, xd ≠ .int k) ∧ P.info? elem = some i ∧
      i.zero = some vz ∧ vz.cells.toList = z ∧ vz.cells.size = i.size := by
  unfold appTypes at h
  split at h
  · rename_i st xt hst hxt
    split at h
    · rename_i e xd hse hxd
      split at h
      · cases h
      · rename_i hni
        split at h
        · rename_i i' z hi hz
          split at h
          · rename_i hl
            cases h
            obtain ⟨i2, vz, hi2, hvz, hcz, _⟩ := zeroCells_spec hz
            rw [hi] at hi2
            cases hi2
            have := Nat.eq_of_beq_eq_true hl
            refine ⟨st, xt, xd, z, vz, hst, hxt, sliceElem_spec hse, hxd, fun k hk => hni k hk, hi, hvz, hcz, ?_⟩
            rw [← this, ← hcz]; simp
          · cases h
        · cases h
    · cases h
  · cases h

theorem lenVal_sound {x x' : Value} {n : Nat} (h : lenVal x = some n) (hx : VRel ρ x x') (w : World) : (Builtin.lenOf x').run P w = .ok n w := by
  unfold lenVal at h
  split at h
  · cases h
    cases hx <;> rfl
  · cases h
    cases hx
    rename_i s
    show Result.ok s.size w = _
    rw [Array.length_toList]; rfl
  · cases h

theorem srcCells_run (hr : Rel P N ρ σ w) {size n m : Nat} {x x' : Value} {new : List Value} (h : srcCells σ size n x = some new) (hx : VRel ρ x x') (hm : lenVal x = some m) (hn : n ≤ m) :
    ∃ new', (Builtin.firstCells size n x').run P w = .ok new' w ∧ LRel ρ new new'.toList := by
  unfold srcCells at h
  split at h
  · rename_i k off len cap
    cases hm
    cases hx with
    | slice _ _ _ _ p off' cap' hp hl ha hc hs =>
      obtain ⟨hlen, l', hl', hcell⟩ := aLoad_sound hr h hp
      unfold Builtin.firstCells
      simp only
      by_cases h0 : n * size = 0
      · rw [h0] at hlen ⊢
        have : new = [] := List.length_eq_zero_iff.1 hlen
        subst this
        exact ⟨#[], rfl, .nil⟩
      · have hoff : off' = p.o + off := ha.resolve_left (by rintro rfl; exact h0 (by rw [show n = 0 by omega]; simp))
        subst hoff
        have := run_loadCells_list (P := P) (w := w) ⟨p.b, p.o + off, none⟩ l' hcell
        rw [← hl'.length, hlen] at this
        exact ⟨l'.toArray, this, by simpa using hl'⟩
  · cases h
    cases hx
    exact ⟨#[], rfl, .nil⟩
  · rename_i s
    cases h
    cases hx
    refine ⟨_, rfl, ?_⟩
    have : ((s.extract 0 n).data.map fun b => Value.int .u8 (b.toNat : Int)).toList = (s.data.toList.take n).map fun b => Value.int .u8 (b.toNat : Int) := by
      rw [Array.toList_map, string_cut]
      simp
    rw [this]
    exact allPlain_rel ρ (by
      generalize s.data.toList.take n = l
      induction l with
      | nil => rfl
      | cons b l ih => rw [List.map_cons, allPlain_cons, ih]; rfl)
  · cases h

theorem cut_cap (need old : Nat) (e : TypeId) (t : Nat) : need ≤ (Question.appendCap need old e).cut t := by
  show need ≤ need + t % (2 ^ 63 - need)
  omega

/-- An append that finds no room: a new row, of whatever capacity. -/
theorem append_grows {argTypes : Array TypeId} {ty : TypeId} {s' x' : Value} {st xt elem : TypeId} {xd : TypeDesc} {i : TypeInfo} {vz : Value} {base : Option Addr} {len cap n : Nat}
    (h1 : argTypes[0]? = some st) (h2 : argTypes[1]? = some xt) (h3 : P.underlying st = some (.slice elem)) (h4 : P.underlying xt = some xd) (h5 : ∀ k, xd ≠ .int k) (h6 : P.info? elem = some i) (h7 : i.zero = some vz) (h8 : vz.cells.size = i.size)
    (hs : s' = .slice base len cap) (hx : (Builtin.lenOf x').run P w = .ok n w) (hc : cap < len + n) (hroom : roomFor (len + n) i.bytes = true) {old new : Array Value}
    (hold : (Builtin.firstCells i.size len s').run P { w with drawn := w.drawn + 1 } = .ok old { w with drawn := w.drawn + 1 }) (hnew : (Builtin.firstCells i.size n x').run P { w with drawn := w.drawn + 1 } = .ok new { w with drawn := w.drawn + 1 })
    (hol : old.size = len * i.size) (hnl : new.size = n * i.size) :
    ∃ newCap c, len + n ≤ newCap ∧ c.size = newCap * i.size ∧ c.toList.take (len * i.size + n * i.size) = old.toList ++ new.toList ∧
      (Builtin.append_ argTypes ty #[s', x']).run P w = .ok (.slice (some ⟨w.heap.size, 0, none⟩) (len + n) newCap) { w with heap := w.heap.push (.cells c elem (0, 0)), drawn := w.drawn + 1 } := by
  subst hs
  obtain ⟨g1, g2⟩ := roomFor_spec hroom hc
  refine ⟨(Question.appendCap (len + n) cap elem).cut (w.tape w.drawn (.appendCap (len + n) cap elem)), old ++ new ++ Builtin.zeroCells vz.cells ((Question.appendCap (len + n) cap elem).cut (w.tape w.drawn (.appendCap (len + n) cap elem)) - (len + n)), cut_cap _ _ _ _, ?_, ?_, ?_⟩
  · have hcut := cut_cap (len + n) cap elem (w.tape w.drawn (.appendCap (len + n) cap elem))
    generalize (Question.appendCap (len + n) cap elem).cut (w.tape w.drawn (.appendCap (len + n) cap elem)) = q at *
    unfold Builtin.zeroCells
    simp only [Array.size_append, Array.size_map, Array.size_range, hol, hnl, h8]
    rw [← Nat.add_mul, ← Nat.add_mul]
    congr 1
    omega
  · simp only [Array.toList_append]
    rw [List.take_append_of_le_length (by simp [hol, hnl])]
    rw [List.take_of_length_le (by simp [hol, hnl])]
  · have hzeros : (match xd with | .int _ => true | _ => false) = false := by
      cases xd <;> first | rfl | exact absurd rfl (h5 _)
    have hsz : P.cellsOf elem = i.size := by simp [Program.cellsOf, h6]
    unfold Builtin.append_
    simp only [h1, h2, List.getElem?_toArray, List.getElem?_cons_zero, List.getElem?_cons_succ, Sem.run_bind, run_underlying h3, Result.andThen_ok, run_size h6, run_underlying h4, Sem.run_pure]
    simp only [Bool.false_eq_true, if_false, Sem.run_bind, hx, Result.andThen_ok]
    rw [if_neg (show ¬ len + n ≤ cap by omega)]
    simp only [Sem.run_bind, run_info h6, Result.andThen_ok]
    rw [if_neg (fun h => g1 h.1)]
    simp only [Sem.run_bind, run_info h6, Result.andThen_ok]
    rw [if_neg g2]
    simp only [Sem.run_bind, run_choose, Question.forced, Bool.false_eq_true, if_false, Result.andThen_ok, run_info h6, run_askRoom, hsz, hold, Bool.not_false, if_true, hnew, run_zero h6 h7, run_newRow, Sem.run_pure]

/-- An append that finds room. -/
theorem append_fits {argTypes : Array TypeId} {ty : TypeId} {x' : Value} {st xt elem : TypeId} {xd : TypeDesc} {i : TypeInfo} {base : Option Addr} {len cap n : Nat}
    (h1 : argTypes[0]? = some st) (h2 : argTypes[1]? = some xt) (h3 : P.underlying st = some (.slice elem)) (h4 : P.underlying xt = some xd) (h5 : ∀ k, xd ≠ .int k) (h6 : P.info? elem = some i)
    (hx : (Builtin.lenOf x').run P w = .ok n w) (hc : len + n ≤ cap) {new : Array Value} (hnew : (Builtin.firstCells i.size n x').run P w = .ok new w) {w' : World}
    (hst : ∀ q, base = some q → (storeCells (q.add (len * i.size)) new.toList).run P w = .ok () w') (hno : base = none → w' = w) :
    (Builtin.append_ argTypes ty #[.slice base len cap, x']).run P w = .ok (.slice base (len + n) cap) w' := by
  have hzeros : (match xd with | .int _ => true | _ => false) = false := by
    cases xd <;> first | rfl | exact absurd rfl (h5 _)
  have hsz : P.cellsOf elem = i.size := by simp [Program.cellsOf, h6]
  unfold Builtin.append_
  simp only [h1, h2, List.getElem?_toArray, List.getElem?_cons_zero, List.getElem?_cons_succ, Sem.run_bind, run_underlying h3, Result.andThen_ok, run_size h6, run_underlying h4, Sem.run_pure]
  simp only [Bool.false_eq_true, if_false, Sem.run_bind, hx, Result.andThen_ok]
  rw [if_pos hc]
  simp only [Bool.not_false, if_true, Sem.run_bind, hsz, hnew, Result.andThen_ok]
  cases base with
  | none => rw [hno rfl]; rfl
  | some q =>
    simp only [Sem.run_bind, hst q rfl, Result.andThen_ok, Sem.run_pure]

theorem storeCells_nil (q : Addr) (w : World) : (storeCells q []).run P w = .ok () w := rfl

theorem LRel.nil_of {l : List Value} (h : LRel ρ [] l) : l = [] := by cases h; rfl

theorem aAppend_sound (hr : Rel P N ρ σ w) {argTypes : Array TypeId} {ty : TypeId} {s x s' x' : Value} {r : ORes} (h : aAppend P σ argTypes s x = some r) (hs : VRel ρ s s') (hx : VRel ρ x x') :
    OpRel P N ρ σ w (do pure (.value (← Builtin.append_ argTypes ty #[s', x']))) r := by
  unfold aAppend at h
  split at h
  · rename_i elem i n hat hlen
    obtain ⟨st, xt, xd, z, vz, h1, h2, h3, h4, h5, h6, h7, h8, h9⟩ := appTypes_spec hat
    have hcell : P.cellsOf elem = i.size := by simp [Program.cellsOf, h6]
    split at h
    · cases h
    · rename_i new hsrc
      split at h
      · cases h
      · rename_i hone
        simp only [Bool.and_eq_true] at hone
        obtain ⟨hone, hnl⟩ := hone
        have hnl := Nat.eq_of_beq_eq_true hnl
        obtain ⟨new', hnew, hnr⟩ := srcCells_run hr hsrc hx hlen (Nat.le_refl _)
        have hlr := lenVal_sound (P := P) hlen hx w
        have hr1 : Rel P N ρ σ { w with drawn := w.drawn + 1 } := hr.of_heap rfl
        obtain ⟨new1, hnew1, hnr1⟩ := srcCells_run hr1 hsrc hx hlen (Nat.le_refl _)
        have hs1 : new1.size = n * i.size := by
          have e1 := hnr1.length
          have e2 : new1.toList.length = new1.size := by simp
          omega
        split at h
        · cases hs
          cases n with
          | zero =>
            cases h
            refine ⟨.slice none 0 0, ?_, .snil⟩
            simp only [Sem.run_bind, append_fits (ty := ty) h1 h2 h3 h4 h5 h6 hlr (base := none) (len := 0) (cap := 0) (Nat.le_refl _) hnew (w' := w) (fun q hq => by cases hq) (fun _ => rfl), Result.andThen_ok, Sem.run_pure]
          | succ n' =>
            simp only at h
            split at h
            · rename_i hroom
              cases h
              obtain ⟨newCap, c, g1, g2, g3, g4⟩ := append_grows (ty := ty) (s' := .slice none 0 0) (base := none) (len := 0) (cap := 0) (n := n' + 1) (old := #[]) h1 h2 h3 h4 h5 h6 h7 h9 rfl hlr (by omega) (by simpa using hroom) rfl hnew1 (by simp) hs1
              have hnl1 := hnr1.length
              refine ⟨.cells c elem (0, 0), .slice (some ⟨w.heap.size, 0, none⟩) (n' + 1) newCap, { w with heap := w.heap.push (.cells c elem (0, 0)), drawn := w.drawn + 1 }, by simp only [Sem.run_bind, g4, Result.andThen_ok, Sem.run_pure, Nat.zero_add], rfl, rfl, rfl, rfl, born_row_more elem ?_ ?_, mk_slice σ _ rfl (by omega) (fun h => by unfold unk at h; omega) fun _ => ?_⟩
              · simp only [Nat.zero_mul, Nat.zero_add, List.nil_append] at g3
                rw [hnl, g3]
                exact hnr1
              · rw [hnl, g2]
                exact Nat.mul_le_mul_right _ (by omega)
              · show newCap * P.cellsOf elem ≤ c.size
                rw [hcell, g2]; exact Nat.le_refl _
            · cases h
        · rename_i k off len cap
          split at h
          · cases h
          · rename_i hroom
            cases hs with
            | slice _ _ _ _ p off' cap' hp hl ha hc hsS =>
              split at h
              · rename_i hcap
                have hcap : cap < unk := Nat.le_of_ble_eq_true hcap
                have hcc := hc hcap
                subst hcc
                split at h
                · rename_i hfit
                  have hfit := Nat.le_of_ble_eq_true hfit
                  split at h
                  · rename_i σ' hst
                    cases h
                    obtain ⟨w', hw1, hw2, hw3⟩ := aStore_sound hr hst hp hnr
                    have hrun : (storeCells (Addr.add ⟨p.b, off', none⟩ (len * i.size)) new'.toList).run P w = .ok () w' := by
                      rcases ha with h0 | h0
                      · have hn0 : n = 0 := by omega
                        have hnil : new = [] := List.length_eq_zero_iff.1 (by rw [hnl, hn0]; simp)
                        subst hnil
                        have e := hnr.nil_of
                        rw [e] at hw1 ⊢
                        rw [storeCells_nil] at hw1 ⊢
                        exact hw1
                      · subst h0
                        rw [add_some, show p.o + off + len * i.size = p.o + (off + len * i.size) by omega]
                        exact hw1
                    refine ⟨.value (.slice (some ⟨p.b, off', none⟩) (len + n) cap'), .slice (some ⟨p.b, off', none⟩) (len + n) cap', w', ρ, ?_, .inl rfl, .same (aStore_next (by assumption)), .slice k off (len + n) cap' p off' cap' hp hfit ha (fun _ => rfl) (fun h => absurd h (by omega)), hw2, hw3⟩
                    simp only [Sem.run_bind, append_fits (ty := ty) (base := some ⟨p.b, off', none⟩) h1 h2 h3 h4 h5 h6 hlr hfit hnew (fun q hq => by cases hq; exact hrun) (fun h => by cases h), Result.andThen_ok, Sem.run_pure]
                  · cases h
                · rename_i hfit
                  have hfit : cap' < len + n := by
                    rcases Nat.lt_or_ge cap' (len + n) with h0 | h0
                    · exact h0
                    · rw [Nat.ble_eq_true_of_le h0] at hfit; cases hfit
                  split at h
                  · rename_i old hold
                    split at h
                    · rename_i hone2
                      cases h
                      obtain ⟨hol, old', hold', hoc⟩ := aLoad_sound hr1 hold hp
                      have hfirst : (Builtin.firstCells i.size len (.slice (some ⟨p.b, off', none⟩) len cap')).run P { w with drawn := w.drawn + 1 } = .ok old'.toArray { w with drawn := w.drawn + 1 } := by
                        unfold Builtin.firstCells
                        simp only
                        by_cases h0 : len * i.size = 0
                        · rw [h0] at hol ⊢
                          have : old = [] := List.length_eq_zero_iff.1 hol
                          subst this
                          rw [hold'.nil_of]
                          rfl
                        · have hoff : off' = p.o + off := ha.resolve_left (by rintro rfl; exact h0 (by rw [show len = 0 by omega]; simp))
                          subst hoff
                          have := run_loadCells_list (P := P) (w := { w with drawn := w.drawn + 1 }) ⟨p.b, p.o + off, none⟩ old' hoc
                          rw [← hold'.length, hol] at this
                          exact this
                      have hos : old'.toArray.size = len * i.size := by have := hold'.length; simp; omega
                      obtain ⟨newCap, c, g1, g2, g3, g4⟩ := append_grows (ty := ty) h1 h2 h3 h4 h5 h6 h7 h9 rfl hlr hfit hroom hfirst hnew1 hos hs1
                      have hl1 := hold'.length
                      have hl2 := hnr1.length
                      refine ⟨.cells c elem (0, 0), .slice (some ⟨w.heap.size, 0, none⟩) (len + n) newCap, { w with heap := w.heap.push (.cells c elem (0, 0)), drawn := w.drawn + 1 }, by simp only [Sem.run_bind, g4, Result.andThen_ok, Sem.run_pure], rfl, rfl, rfl, rfl, born_row_more elem ?_ ?_, mk_slice σ _ rfl g1 (fun h => by unfold unk at h; omega) fun _ => ?_⟩
                      · rw [List.length_append, hol, hnl, g3]
                        exact hold'.append hnr1
                      · rw [List.length_append, hol, hnl, g2, ← Nat.add_mul]
                        exact Nat.mul_le_mul_right _ g1
                      · show newCap * P.cellsOf elem ≤ c.size
                        rw [hcell, g2]; exact Nat.le_refl _
                    · cases h
                  · cases h
              · rename_i hcap
                have hcap : unk ≤ cap := by
                  rcases Nat.lt_or_ge cap unk with h0 | h0
                  · have := Nat.ble_eq_true_of_le h0
                    rw [Nat.blt] at hcap
                    rw [this] at hcap; cases hcap
                  · exact h0
                cases n with
                | zero =>
                  cases h
                  have hnil : new = [] := List.length_eq_zero_iff.1 (by rw [hnl]; simp)
                  subst hnil
                  have e := hnr.nil_of
                  refine ⟨.slice (some ⟨p.b, off', none⟩) len cap', ?_, .slice k off len cap p off' cap' hp hl ha hc hsS⟩
                  simp only [Sem.run_bind, append_fits (ty := ty) (base := some ⟨p.b, off', none⟩) (len := len) (cap := cap') h1 h2 h3 h4 h5 h6 hlr (by omega) hnew (w' := w) (fun q _ => by rw [e]; rfl) (fun h => by cases h), Result.andThen_ok, Sem.run_pure, Nat.add_zero]
                | succ n' =>
                  simp only at h
                  split at h
                  · rename_i v σ' hg
                    cases h
                    obtain ⟨cells, klen, cls, pos, old, kg, kval, kle, kold, kcl, rfl, knext, kG, _⟩ := aGrow_inv hg
                    obtain ⟨hsz, c0, fz0, hrow⟩ := hr.obj k p _ hp kg
                    obtain ⟨hin, hcells⟩ := hrow.holds kval
                    have hpsz : p.sz = i.size := by rw [hsz, hcell]
                    obtain ⟨kol, kread⟩ := readTr_spec cells (len * i.size) off old kold
                    have hpb : p.b < w.heap.size := (hr.dom k p hp).1
                    have hclr := clear_spec kcl
                    by_cases hfit : len + (n' + 1) ≤ cap'
                    · -- there is room
                      have hoff : off' = p.o + off := ha.resolve_left (by omega)
                      subst hoff
                      have hbound := (hsS hcap).resolve_left (by omega)
                      have hS := hrow.size
                      have hm1 : (len + (n' + 1)) * p.sz ≤ cap' * p.sz := Nat.mul_le_mul_right _ hfit
                      have hm2 : (len + (n' + 1)) * p.sz = len * i.size + (n' + 1) * i.size := by rw [hpsz, Nat.add_mul]
                      have hnl' := hnr.length
                      have hNp : N ≤ p.b := by
                        have hor := (hr.dom k p hp).2.2 _ kg
                        rcases hor with h1' | h1'
                        · exact h1'
                        · exfalso
                          obtain ⟨y, hy, hf⟩ := h1' (clsAt σ cls k (pos + klen)).hi
                          simp only [AObj.clsOf] at hy
                          have e : clsAt σ cls k (pos + klen) = y := by unfold clsAt; rw [hy]
                          rw [e] at hclr hf
                          rcases hf with hf | ⟨_, hf⟩
                          · rw [hclr.1] at hf; cases hf
                          · omega
                      have hfree : ∀ j, j < new'.toList.length → ¬ (fz0.1 ≤ p.o + off + len * i.size + 0 + j ∧ p.o + off + len * i.size + 0 + j < fz0.2) := fun j hj => by
                        have hnf : ¬ σ.maybeFrozen cls (pos + (off + len * i.size + j)) := fun hm => by
                          have := (clsAt_frozen (k := k) (e := pos + klen)).2 hm
                          exact hclr.2 j (by omega) (by rw [show pos + off + len * i.size + j = pos + (off + len * i.size + j) by omega]; exact this)
                        have := hrow.free (off + len * i.size + j) (by omega) hnf
                        rw [show p.o + off + len * i.size + 0 + j = p.o + (off + len * i.size + j) by omega]
                        exact this
                      have hrun := storeCells_run (P := P) (b := p.b) (e := elem) (fz := fz0) (p.o + off + len * i.size) new'.toList 0 c0 w hrow.at' (by omega) hfree (hnr.one (allOne_spec hone))
                      have hrel := aGrow_rel (w' := { w with heap := w.heap.setIfInBounds p.b (.cells (over c0 (p.o + off + len * i.size + 0) new'.toList) elem fz0) }) (q := ⟨p.b, p.o + off, p.S, p.sz⟩) hr hg hnl hp (by simp) (fun j hj _ => by simp [Ne.symm hj])
                        (fun c e fz hc' => by
                          rw [hrow.at'] at hc'
                          cases hc'
                          exact ⟨over c0 (p.o + off + len * i.size + 0) new'.toList, by simp [hpb], over_size _ _ _, fun j hj => by rw [over_get _ _ _ (by omega), if_neg (by omega)]⟩)
                        (.inl ⟨rfl, rfl, rfl⟩) (by rw [hsz]) hNp (fun h => absurd h (Nat.ne_of_lt hpb))
                        ⟨over c0 (p.o + off + len * i.size + 0) new'.toList, fz0, by simp [hpb], by rw [over_size]; exact hS, by rw [over_size, Nat.add_mul]; show p.o + off + _ ≤ _; omega,
                          fun j hj cells' klen' cls' pos' hk' hnf => by
                            rw [kg] at hk'
                            cases hk'
                            rw [over_size] at hj
                            have hj' : p.o + off + j < c0.size := hj
                            have := hrow.free (off + j) (by omega) (fun hm => hnf (by rw [show pos + off + j = pos + (off + j) by omega]; exact hm))
                            show ¬ (fz0.1 ≤ p.o + off + j ∧ p.o + off + j < fz0.2)
                            rw [show p.o + off + j = p.o + (off + j) by omega]
                            exact this,
                          fun j u hj hu => by
                            obtain ⟨y, hy, hyr⟩ := hcells (off + j) u (by omega) (hu cells klen cls pos kg)
                            refine ⟨y, ?_, hyr⟩
                            rw [over_get _ _ _ (by omega), if_neg (by show ¬ (_ ≤ p.o + off + j ∧ _); omega)]
                            show c0[p.o + off + j]? = _
                            rw [← hy]; congr 1; omega,
                          fun j u hu => by
                            have hj : j < new.length := (List.getElem?_eq_some_iff.1 hu).1
                            obtain ⟨y, hy, hyr⟩ := hnr.get j u hu
                            refine ⟨y, ?_, hyr⟩
                            show (over c0 _ _)[p.o + off + len * i.size + j]? = _
                            rw [over_get _ _ _ (by omega), if_pos (by omega), ← hy]
                            congr 1; omega⟩
                      refine ⟨.value (.slice (some ⟨p.b, p.o + off, none⟩) (len + (n' + 1)) cap'), .slice (some ⟨p.b, p.o + off, none⟩) (len + (n' + 1)) cap', _, _, ?_, .inl rfl, .ext hr.fresh_none (aGrow_next (by assumption)), .slice σ.next 0 (len + (n' + 1)) unk ⟨p.b, p.o + off, p.S, p.sz⟩ (p.o + off) cap' (ext_self _ _ _) hfit (.inr rfl) (fun h => absurd h (Nat.lt_irrefl _)) (fun _ => .inr hbound), hrel, ⟨rfl, rfl, rfl, by simp, fun j hj => ?_⟩⟩
                      · simp only [Sem.run_bind, append_fits (ty := ty) (base := some ⟨p.b, p.o + off, none⟩) h1 h2 h3 h4 h5 h6 hlr hfit hnew (fun q hq => by cases hq; rw [add_some]; exact hrun) (fun h => by cases h), Result.andThen_ok, Sem.run_pure]
                      · show (w.heap.setIfInBounds p.b _)[j]? = _
                        rw [Array.getElem?_setIfInBounds, if_neg (by omega)]
                    · -- there is none
                      have hfit : cap' < len + (n' + 1) := by omega
                      obtain ⟨old2, hold2, hol2⟩ : ∃ old2 : List Value, LRel ρ old old2 ∧ (Builtin.firstCells i.size len (.slice (some ⟨p.b, off', none⟩) len cap')).run P { w with drawn := w.drawn + 1 } = .ok old2.toArray { w with drawn := w.drawn + 1 } := by
                        have hal : aLoad σ k off (len * i.size) = some old := by
                          unfold aLoad
                          rw [kg]
                          simp only [kval, Bool.true_and, Nat.ble_eq_true_of_le kle]
                          exact kold
                        obtain ⟨hol, old', hold', hoc⟩ := aLoad_sound hr1 hal hp
                        refine ⟨old', hold', ?_⟩
                        unfold Builtin.firstCells
                        simp only
                        by_cases h0 : len * i.size = 0
                        · rw [h0] at hol ⊢
                          have : old = [] := List.length_eq_zero_iff.1 hol
                          subst this
                          rw [hold'.nil_of]
                          rfl
                        · have hoff : off' = p.o + off := ha.resolve_left (by rintro rfl; exact h0 (by rw [show len = 0 by omega]; simp))
                          subst hoff
                          have := run_loadCells_list (P := P) (w := { w with drawn := w.drawn + 1 }) ⟨p.b, p.o + off, none⟩ old' hoc
                          rw [← hold'.length, hol] at this
                          exact this
                      have hos : old2.toArray.size = len * i.size := by have := hold2.length; simp; omega
                      obtain ⟨newCap, c, g1, g2, g3, g4⟩ := append_grows (ty := ty) h1 h2 h3 h4 h5 h6 h7 h9 rfl hlr hfit hroom hol2 hnew1 hos hs1
                      have hl1 := hold2.length
                      have hl2 := hnr1.length
                      have hcl : c.toList.length = c.size := by simp
                      have hm3 : (len + (n' + 1)) * i.size ≤ newCap * i.size := Nat.mul_le_mul_right _ g1
                      have hm4 : (len + (n' + 1)) * i.size = len * i.size + (n' + 1) * i.size := Nat.add_mul _ _ _
                      have hcat : LRel ρ (old ++ new) (c.toList.take (len * i.size + (n' + 1) * i.size)) := by rw [g3]; exact hold2.append hnr1
                      have hget : ∀ (j : Nat) (u : Value), (old ++ new)[j]? = some u → ∃ y, c[j]? = some y ∧ VRel ρ u y := fun j u hu => by
                        obtain ⟨y, hy, hyr⟩ := hcat.get j u hu
                        rw [List.getElem?_take] at hy
                        split at hy
                        · exact ⟨y, by rw [← Array.getElem?_toList]; exact hy, hyr⟩
                        · cases hy
                      have hrel := aGrow_rel (w' := { w with heap := w.heap.push (.cells c elem (0, 0)), drawn := w.drawn + 1 }) (q := ⟨w.heap.size, 0, c.size, P.cellsOf elem⟩) hr hg hnl hp (by simp) (fun j hj hj2 => by simp [Array.getElem?_push, show j ≠ w.heap.size by omega])
                        (fun c' e fz hc' => ⟨c', by simp [Array.getElem?_push, show p.b ≠ w.heap.size by omega]; simpa using hc', rfl, fun _ _ => rfl⟩)
                        (.inr rfl) rfl hr.size (fun _ => rfl)
                        ⟨c, (0, 0), by simp, rfl, by rw [g2]; show 0 + _ ≤ _; omega, fun j _ cells' klen' cls' pos' _ _ => by simp,
                          fun j u hj hu => by
                            have := kread j hj
                            have h2' : old[j]? = some u := by
                              have hjl : j < old.length := by omega
                              have h3' := kread j hj old[j] (by simp [hjl])
                              rw [hu cells klen cls pos kg] at h3'
                              cases h3'
                              simp [hjl]
                            obtain ⟨y, hy, hyr⟩ := hget j u (by rw [List.getElem?_append_left (by omega)]; exact h2')
                            exact ⟨y, by simpa using hy, hyr⟩,
                          fun j u hu => by
                            obtain ⟨y, hy, hyr⟩ := hget (len * i.size + j) u (by rw [List.getElem?_append_right (by omega), ← hu]; congr 1; omega)
                            exact ⟨y, by simpa using hy, hyr⟩⟩
                      refine ⟨.value (.slice (some ⟨w.heap.size, 0, none⟩) (len + (n' + 1)) newCap), .slice (some ⟨w.heap.size, 0, none⟩) (len + (n' + 1)) newCap, _, _, ?_, .inl rfl, .ext hr.fresh_none (aGrow_next (by assumption)), .slice σ.next 0 (len + (n' + 1)) unk ⟨w.heap.size, 0, c.size, P.cellsOf elem⟩ 0 newCap (ext_self _ _ _) g1 (.inr rfl) (fun h => absurd h (Nat.lt_irrefl _)) (fun _ => .inr (by show 0 + newCap * P.cellsOf elem ≤ c.size; rw [hcell, g2]; omega)), hrel, push_below hr.size rfl rfl rfl rfl⟩
                      simp only [Sem.run_bind, g4, Result.andThen_ok, Sem.run_pure]
                  · cases h
        · cases h
  · cases h

end
end Go.Ke
