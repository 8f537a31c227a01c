/- Each operation of the abstract run, against the model's: iterators, copies, stores; then all together. No condition. -/
import Derived.Test.YtpmjkpdkkckoaaaGreatDoorKeJ
import Derived.Laws.BytesString
namespace Go.Ke
open Go.RowKit (Below)

section
variable {P : Program} {N : Nat} {ρ : Loc} {σ : St} {w : World} {T : Tr Value} {a : Act}

theorem run_getObj {b : Nat} {ob : Obj} (h : w.heap[b]? = some ob) (hn : ∀ c e f, ob ≠ .cells c e f) : (getObj b).run P w = .ok ob w := by
  simp only [getObj, Sem.run, h]

theorem run_setObj {b : Nat} {ob ob' : Obj} (h : w.heap[b]? = some ob) (hn : ∀ c e f, ob ≠ .cells c e f) : (setObj b ob').run P w = .ok () { w with heap := w.heap.setIfInBounds b ob' } := by
  simp only [setObj, Sem.run, h]

/-- An iterator that turns. -/
theorem putIter_sound (hr : Rel P N ρ σ w) {k : Nat} {p : Pl} (hp : ρ k = some p) {ob ob' : AObj} {o1 o2 : Obj} (hg : σ.heap.get k = some ob) (hrow : ob.isRow = false) (hrow' : ob'.isRow = false) (hb : w.heap[p.b]? = some o1) (hnc : ∀ c e f, o1 ≠ .cells c e f)
    (hn : σ.cls.get k = none) (hrel : ORel P ρ { σ with heap := σ.heap.set ob' k } { w with heap := w.heap.setIfInBounds p.b o2 } k p ob') :
    Rel P N ρ { σ with heap := σ.heap.set ob' k } { w with heap := w.heap.setIfInBounds p.b o2 } ∧ Below N w { w with heap := w.heap.setIfInBounds p.b o2 } := by
  have hcls : ∀ o : AObj, o.isRow = false → o.clsOf k = k ∧ o.posOf = 0 := fun o h => by cases o <;> first | exact ⟨rfl, rfl⟩ | cases h
  have hlt : p.b < w.heap.size := (hr.dom k p hp).1
  have hN : N ≤ p.b := by
    have hor := (hr.dom k p hp).2.2 _ hg
    rcases hor with h1 | h1
    · exact h1
    · obtain ⟨x, hx, _⟩ := h1 0
      rw [(hcls ob hrow).1, hn] at hx; cases hx
  refine ⟨put_sound hr hp hg (hcls ob hrow) (hcls ob' hrow') (fun c e f h => by rw [hb] at h; cases h; exact hnc _ _ _ rfl) hrel (fun i hi => by simp [Ne.symm hi]) (by simp), ⟨rfl, rfl, rfl, by simp, fun i hi => ?_⟩⟩
  show (w.heap.setIfInBounds p.b _)[i]? = _
  rw [Array.getElem?_setIfInBounds, if_neg (by omega)]

theorem tuple3 {x y z x' y' z' : Value} (h1 : VRel ρ x x') (h2 : VRel ρ y y') (h3 : VRel ρ z z') : VRel ρ (.tuple #[x, y, z]) (.tuple #[x', y', z']) := by
  refine .tuple _ _ rfl fun i g1 g2 => ?_
  have : i = 0 ∨ i = 1 ∨ i = 2 := by simp at g1; omega
  rcases this with rfl | rfl | rfl
  · exact h1
  · exact h2
  · exact h3

theorem tuple1 {x x' : Value} (h1 : VRel ρ x x') : VRel ρ (.tuple #[x]) (.tuple #[x']) := by
  refine .tuple _ _ rfl fun i g1 g2 => ?_
  have : i = 0 := by simp at g1; omega
  subst this
  exact h1

theorem contains_arr (l : List Nat) (n : Nat) : l.toArray.contains n = l.contains n := by simp

theorem eNext_sound (hr : Rel P N ρ σ w) {v v' : Value} {isString : Bool} {ty : TypeId} {r : ORes} (h : eNext σ v isString = some r) (hv : VRel ρ v v') : OpRel P N ρ σ w (do pure (.value (← Instr.next v' isString ty))) r := by
  unfold eNext at h
  split at h
  · rename_i k
    cases hv with
    | ptr _ _ p hp =>
      split at h
      · cases h
      · rename_i hn
        split at h
        · rename_i s pos hg
          obtain ⟨ho, hb⟩ := hr.obj k p _ hp hg
          have hsz : s.size = s.data.toList.length := by rw [Array.length_toList]; rfl
          have hgo := run_getObj (P := P) hb (by intro c e f h; cases h)
          split at h
          · rename_i hlt
            cases h
            have hlt : pos < s.data.toList.length := Nat.le_of_ble_eq_true hlt
            have hput := putIter_sound (ob' := .strIter s (pos + (Utf8.decode s pos).2)) (o2 := .stringIter s (pos + (Utf8.decode s pos).2)) hr hp hg rfl rfl hb (by intro c e f h; cases h) hn ⟨ho, by simp [(hr.dom k p hp).1]⟩
            refine ⟨.value (.tuple #[.bool true, .int .i64 pos, .int .i32 (Utf8.decode s pos).1]), _, _, ρ, ?_, .inl rfl, Grew.same rfl, tuple3 (.bool _) (.int _ _) (.int _ _), hput.1, hput.2⟩
            unfold Instr.next
            rw [ho]
            simp only [Nat.add_zero, Sem.run_bind, hgo, Result.andThen_ok]
            rw [if_pos (by rw [hsz]; exact hlt)]
            simp only [Sem.run_bind, run_setObj hb (by intro c e f h; cases h), Result.andThen_ok, Sem.run_pure, goInt]
          · rename_i hlt
            cases h
            have hlt : ¬ pos < s.size := fun hl => by
              rw [hsz] at hl
              have := Nat.ble_eq_true_of_le hl
              rw [Nat.blt] at hlt
              rw [this] at hlt; cases hlt
            refine ⟨.tuple #[.bool false], ?_, tuple1 (.bool _)⟩
            unfold Instr.next
            rw [ho]
            simp only [Nat.add_zero, Sem.run_bind, hgo, Result.andThen_ok]
            rw [if_neg hlt]
            rfl
        · rename_i since seen last hg
          cases h
          obtain ⟨ho, m', hb, hm⟩ := hr.obj k p _ hp hg
          cases m' with
          | some x => exact hm.elim
          | none =>
            have hgo := run_getObj (P := P) hb (by intro c e f h; cases h)
            refine ⟨.tuple #[.bool false], ?_, tuple1 (.bool _)⟩
            unfold Instr.next
            rw [ho]
            simp only [Nat.add_zero, Sem.run_bind, hgo, Result.andThen_ok, Sem.run_pure]
        · rename_i m since seen last hg
          obtain ⟨ho, m', hb, hm⟩ := hr.obj k p _ hp hg
          cases m' with
          | none => exact hm.elim
          | some mb =>
            obtain ⟨pm, hpm, rfl⟩ := hm
            have hgo := run_getObj (P := P) hb (by intro c e f h; cases h)
            split at h
            · cases h
            · rename_i es clock hmap
              obtain ⟨hgm, es', hbm, hes⟩ := aMap_sound hr hmap hpm
              have hgo2 := run_getMap (P := P) hbm
              have hguard : nextOk seen es last = true → (!seen.toArray.isEmpty && !es'.isEmpty && es'.all (fun x => decide (x.born ≥ last))) = false := fun hk => by
                unfold nextOk at hk
                split at hk
                · simp
                · have : es'.toList = [] := by cases hes' : es'.toList with
                    | nil => rfl
                    | cons x l => rw [hes'] at hes; cases hes
                  have : es' = #[] := by apply Array.toList_inj.1; simpa using this
                  simp [this]
                · have h2 := anyOld_sound hes hk
                  have h3 : es'.all (fun x => decide (x.born ≥ last)) = false := by
                    rw [← Array.all_toList]; exact h2
                  rw [h3]; simp
              have hleft := leftE_rel seen hes
              have hleft' : (es'.filter fun e => !seen.toArray.contains e.born) = (es'.toList.filter fun e => !seen.contains e.born).toArray := by
                apply Array.toList_inj.1
                simp
              split at h
              · rename_i hk hl
                cases h
                rw [hl] at hleft
                have hnil : (es'.toList.filter fun e => !seen.contains e.born) = [] := by
                  cases hx : (es'.toList.filter fun e => !seen.contains e.born) with
                  | nil => rfl
                  | cons x l => rw [hx] at hleft; cases hleft
                refine ⟨.tuple #[.bool false], ?_, tuple1 (.bool _)⟩
                unfold Instr.next
                rw [ho]
                simp only [Nat.add_zero, Sem.run_bind, hgo, Result.andThen_ok, hgo2, hguard hk, Bool.false_eq_true, if_false, hleft', hnil]
                simp [Question.forced]
              · rename_i e hk hl
                split at h
                · rename_i hlt
                  cases h
                  have hlt : e.born < since := Nat.le_of_ble_eq_true hlt
                  rw [hl] at hleft
                  obtain ⟨e', hone, he⟩ : ∃ e', (es'.toList.filter fun e => !seen.contains e.born) = [e'] ∧ ERel ρ e e' := by
                    cases hx : (es'.toList.filter fun e => !seen.contains e.born) with
                    | nil => rw [hx] at hleft; cases hleft
                    | cons x l =>
                      rw [hx] at hleft
                      cases hleft with
                      | cons h t => cases t; exact ⟨x, rfl, h⟩
                  have hb' : e'.born < since := by rw [he.born]; exact hlt
                  have hput := putIter_sound (ob' := .mapIter (some m) since (seen ++ [e.born]) clock) (o2 := .mapIter (some pm.b) since (seen.toArray.push e'.born) clock) hr hp hg rfl rfl hb (by intro c e f h; cases h) hn ⟨ho, some pm.b, by simp [(hr.dom k p hp).1, he.born], pm, hpm, rfl⟩
                  refine ⟨.value (.tuple #[.bool true, e'.key, e'.val]), _, _, ρ, ?_, .inl rfl, Grew.same rfl, tuple3 (.bool _) he.key he.val, hput.1, hput.2⟩
                  unfold Instr.next
                  rw [ho]
                  have hold : (#[e'] : Array MapEntry).filter (fun x => decide (x.born < since)) = #[e'] := by simp [hb']
                  have hnew : (#[e'] : Array MapEntry).filter (fun x => decide (x.born ≥ since)) = #[] := by simp; omega
                  simp only [Nat.add_zero, Sem.run_bind, hgo, Result.andThen_ok, hgo2, hguard hk, Bool.false_eq_true, if_false, hleft', hone, hold, hnew]
                  simp [Question.forced, run_setObj hb]
                · cases h
              · cases h
        · cases h
  · cases h

theorem eEntry_sound (hr : Rel P N ρ σ w) {v v' : Value} {r : ORes} (h : eEntry σ v = some r) (hv : VRel ρ v v') : ∃ u u', r = .val u ∧ (Instr.entry v').run P w = .ok u' w ∧ VRel ρ u u' := by
  unfold eEntry at h
  split at h
  · rename_i k
    cases hv with
    | ptr _ _ p hp =>
      split at h
      · rename_i m since seen stepped hg
        obtain ⟨ho, m', hb, hm⟩ := hr.obj k p _ hp hg
        cases m' with
        | none => exact hm.elim
        | some mb =>
          obtain ⟨pm, hpm, rfl⟩ := hm
          have hgo := run_getObj (P := P) hb (by intro c e f h; cases h)
          split at h
          · rename_i es clock stamp hmap hlast
            obtain ⟨hgm, es', hbm, hes⟩ := aMap_sound hr hmap hpm
            have hgo2 := run_getMap (P := P) hbm
            split at h
            · rename_i j e hc hfind
              cases h
              have hc := Nat.eq_of_beq_eq_true hc
              subst hc
              obtain ⟨_, _, _, e', _, hf, he⟩ := findBorn_sound hes hfind
              have hf' : es'.find? (fun e => e.born == stamp) = some e' := by
                rw [← Array.find?_toList]; exact hf
              have hback : seen.toArray.back? = some stamp := by simpa using hlast
              refine ⟨_, .tuple #[e'.key, e'.val], rfl, ?_, okPair2 he.key he.val⟩
              unfold Instr.entry
              rw [ho]
              simp only [Nat.add_zero, Sem.run_bind, hgo, Result.andThen_ok, hback, hgo2, bne_self_eq_false, Bool.false_eq_true, if_false, hf', Sem.run_pure]
            · cases h
          · cases h
      · cases h
  · cases h

theorem eStore_sound (hr : Rel P N ρ σ w) {t : TypeId} {v v' x x' : Value} {r : ORes} (h : eStore P σ t v x = some r) (hv : VRel ρ v v') (hx : VRel ρ x x') :
    OpRel P N ρ σ w (do Instr.storeAt t v' x'; pure .skip) r := by
  unfold eStore at h
  split at h
  · rename_i k off
    cases hv with
    | ptr _ _ p hp =>
      split at h
      · cases h
      · rename_i i hi
        split at h
        · cases h
        · rename_i hl
          have hl := Nat.eq_of_beq_eq_true hl
          split at h
          · rename_i σ' hst
            cases h
            obtain ⟨w', h1, h2, h3⟩ := aStore_sound hr hst hp hx.cells
            refine ⟨.skip, undef, w', ρ, ?_, .inr ⟨rfl, rfl⟩, .same (aStore_next (by assumption)), undef_rel ρ, h2, h3⟩
            have hl' : x'.cells.size = P.cellsOf t := by
              have := hx.cells.length
              have h5 : x'.cells.toList.length = x'.cells.size := by simp
              omega
            unfold Instr.storeAt
            simp only [Instr.sureAddr, Sem.run_bind, Sem.run_pure, Result.andThen_ok, storeVar, run_size hi]
            rw [if_neg (by rw [hl']; simp)]
            simp only [h1, Result.andThen_ok]
          · cases h
  · cases h

theorem srcCells_zero {size : Nat} {x : Value} {l : List Value} (h : srcCells σ size 0 x = some l) : l = [] := by
  unfold srcCells at h
  split at h
  · rw [Nat.zero_mul] at h
    unfold aLoad at h
    split at h
    · split at h
      · cases h; rfl
      · cases h
    · cases h
  · cases h; rfl
  · cases h; rfl
  · cases h

theorem firstCells_zero {size n : Nat} {x x' : Value} (h : lenVal x = some n) (hx : VRel ρ x x') (w : World) : ∃ c, (Builtin.firstCells size 0 x').run P w = .ok c w := by
  unfold lenVal at h
  split at h
  · cases hx
    · exact ⟨_, rfl⟩
    · refine ⟨#[], ?_⟩
      unfold Builtin.firstCells
      simp only [Nat.zero_mul]
      rfl
  · cases hx; exact ⟨_, rfl⟩
  · cases h

theorem eClear_sound (hr : Rel P N ρ σ w) {argTypes : Array TypeId} {ty : TypeId} {x x' : Value} {r : ORes} (h : eClear P σ argTypes x = some r) (hx : VRel ρ x x') :
    OpRel P N ρ σ w (do pure (.value (← Builtin.clear_ argTypes ty #[x']))) r := by
  unfold eClear at h
  split at h
  · cases h
  · rename_i st hst
    split at h
    · rename_i elem hse
      cases h
      cases hx
      have hu := sliceElem_spec hse
      refine ⟨.tuple #[], ?_, .tuple _ _ rfl fun i h1 => by simp at h1⟩
      unfold Builtin.clear_
      simp only [hst, List.getElem?_toArray, List.getElem?_cons_zero, Sem.run_bind, run_underlying hu, Result.andThen_ok, Sem.run_pure]
    · rename_i elem k off m cap hse
      have hu := sliceElem_spec hse
      split at h
      · rename_i z hz
        obtain ⟨i, v, hi, hv, hzl, hzp⟩ := zeroCells_spec hz
        split at h
        · rename_i σ' hst'
          cases h
          cases hx with
          | slice _ _ _ _ p off' cap' hp hl ha hc hs =>
            have hoff := ha.resolve_left (by omega)
            subst hoff
            have hnr : LRel ρ (repL z (m + 1)) (Builtin.zeroCells v.cells (m + 1)).toList := zeros_rel hzp hzl _ _ (by
              rw [← hzl]
              simp)
            obtain ⟨w', h1, h2, h3⟩ := aStore_sound hr hst' hp hnr
            refine ⟨.value (.tuple #[]), _, w', ρ, ?_, .inl rfl, .same (aStore_next (by assumption)), .tuple _ _ rfl fun i h1 => by simp at h1, h2, h3⟩
            unfold Builtin.clear_
            simp only [hst, List.getElem?_toArray, List.getElem?_cons_zero, Sem.run_bind, run_underlying hu, Result.andThen_ok, run_zero hi hv, h1, Sem.run_pure]
        · cases h
      · cases h
    · cases h

theorem eCopy_sound (hr : Rel P N ρ σ w) {argTypes : Array TypeId} {ty : TypeId} {d x d' x' : Value} {r : ORes} (h : eCopy P σ argTypes d x = some r) (hd : VRel ρ d d') (hx : VRel ρ x x') :
    OpRel P N ρ σ w (do pure (.value (← Builtin.copy_ argTypes ty #[d', x']))) r := by
  unfold eCopy at h
  split at h
  · cases h
  · rename_i st hst
    split at h
    · cases h
    · rename_i elem hse
      have hu := sliceElem_spec hse
      split at h
      · rename_i i n k off len cap hi hlen
        have hcell : P.cellsOf elem = i.size := by simp [Program.cellsOf, hi]
        have hlr := lenVal_sound (P := P) hlen hx w
        cases hd with
        | slice _ _ _ _ p off' cap' hp hl ha hc hs =>
          split at h
          · rename_i hsrc
            cases h
            obtain ⟨new', hnew, hnr⟩ := srcCells_run hr hsrc hx hlen (Nat.min_le_left _ _)
            have e := hnr.nil_of
            refine ⟨.int .i64 (Nat.min n len : Nat), ?_, .int _ _⟩
            unfold Builtin.copy_
            simp only [hst, List.getElem?_toArray, List.getElem?_cons_zero, List.getElem?_cons_succ, Sem.run_bind, run_underlying hu, Result.andThen_ok, hlr, run_size hi, hcell, hnew, e, storeCells_nil, Sem.run_pure, goInt]
          · rename_i cells hne hsrc
            split at h
            · rename_i σ' hst'
              cases h
              obtain ⟨new', hnew, hnr⟩ := srcCells_run hr hsrc hx hlen (Nat.min_le_left _ _)
              obtain ⟨w', h1, h2, h3⟩ := aStore_sound hr hst' hp hnr
              refine ⟨.value (.int .i64 (Nat.min n len : Nat)), _, w', ρ, ?_, .inl rfl, .same (aStore_next (by assumption)), .int _ _, h2, h3⟩
              have hstore : (storeCells ⟨p.b, off', none⟩ new'.toList).run P w = .ok () w' := by
                rcases ha with h0 | h0
                · exfalso
                  have hl0 : len = 0 := by omega
                  have hm0 : Nat.min n len = 0 := by rw [hl0]; exact Nat.min_zero n
                  rw [hm0] at hsrc
                  exact hne (srcCells_zero hsrc)
                · subst h0; exact h1
              unfold Builtin.copy_
              simp only [hst, List.getElem?_toArray, List.getElem?_cons_zero, List.getElem?_cons_succ, Sem.run_bind, run_underlying hu, Result.andThen_ok, hlr, run_size hi, hcell, hnew, hstore, Sem.run_pure, goInt]
            · cases h
          · cases h
      · rename_i i n hi hlen
        cases h
        cases hd
        have hlr := lenVal_sound (P := P) hlen hx w
        obtain ⟨c, hc⟩ := firstCells_zero (P := P) (size := P.cellsOf elem) hlen hx w
        refine ⟨.int .i64 0, ?_, .int _ _⟩
        have hm0 : Nat.min n 0 = 0 := Nat.min_zero n
        unfold Builtin.copy_
        simp only [hst, List.getElem?_toArray, List.getElem?_cons_zero, List.getElem?_cons_succ, Sem.run_bind, run_underlying hu, Result.andThen_ok, hlr, hm0, run_size hi, hc, Sem.run_pure, goInt]
        rfl
      · cases h

/-! ### Conversions -/

theorem toBytes_sound (_ : Rel P N ρ σ w) {src dst e : TypeId} {d : TypeDesc} (h1 : P.underlying src = some d) (h2 : P.underlying dst = some (.slice e)) (h3 : P.underlying e = some (.int .u8)) (h4 : P.cellsOf e = 1) (s : ByteArray) :
    ∃ ob v' w', (convert src dst (.string s)).run P w = .ok v' w' ∧ w'.heap = w.heap.push ob ∧ w'.os = w.os ∧ w'.tape = w.tape ∧ w'.output = w.output ∧ BornRel P ρ (.row (s.data.toList.map fun b => .int .u8 b.toNat) e) ob ∧
      VRel (ρ.ext σ.next ⟨w.heap.size, 0, objCells ob, bornSz P (.row (s.data.toList.map fun b => .int .u8 b.toNat) e)⟩) ((Mk.slice s.data.toList.length unk).val σ.next) v' := by
  have hc : (convert src dst (.string s)).run P w = (Conv.stringToBytes e s).run P w := by
    simp only [convert, Sem.run_bind, run_underlying h1, run_underlying h2, Result.andThen_ok]
    cases d <;> simp only [run_underlying h3, Result.andThen_ok]
  have hsz : s.size = s.data.toList.length := (Array.length_toList (xs := s.data)).symm
  obtain ⟨q, hq, hqe⟩ : ∃ q, s.size ≤ q ∧ (Question.appendCap s.size 0 e).cut (w.tape w.drawn (.appendCap s.size 0 e)) = q := ⟨_, cut_cap _ _ _ _, rfl⟩
  obtain ⟨c, hcd⟩ : ∃ c, (s.data.map fun b => Value.int .u8 (b.toNat : Int)) ++ Array.replicate (q - s.size) (Value.int .u8 0) = c := ⟨_, rfl⟩
  have hcs : c.size = q := by
    have : s.data.size = s.size := rfl
    rw [← hcd]; simp only [Array.size_append, Array.size_map, Array.size_replicate]; omega
  refine ⟨.cells c e (c.size, c.size + 1), .slice (some ⟨w.heap.size, 0, none⟩) s.size q, { w with heap := w.heap.push (.cells c e (c.size, c.size + 1)), drawn := w.drawn + 1 }, ?_, rfl, rfl, rfl, rfl, ⟨c, _, rfl, ?_, ?_, ?_⟩, ?_⟩
  · rw [hc]
    unfold Conv.stringToBytes
    simp only [Sem.run_bind, run_choose, Question.forced, Bool.false_eq_true, if_false, Result.andThen_ok, hqe, hcd, run_newRow, Sem.run_pure]
    unfold markStringish
    simp only [Sem.run_bind, run_shape, Result.andThen_ok]
    have hsh : World.shape? { w with heap := w.heap.push (.cells c e (0, 0)), drawn := w.drawn + 1 } w.heap.size = some (e, c.size) := by
      simp [World.shape?]
    simp only [hsh, run_freeze, Result.andThen_ok]
    congr 1
    unfold World.freeze
    simp only [Nat.one_ne_zero, if_false]
    congr 1
    apply Array.ext
    · simp
    · intro i h5 h6
      simp only [Array.getElem_modify, Array.getElem_push]
      by_cases hi : i < w.heap.size
      · simp only [hi, dif_pos]
        rw [if_neg (by omega)]
      · have : i = w.heap.size := by simp at h6; omega
        subst this
        simp
  · rw [List.length_map, hcs]; omega
  · intro i hi h5
    omega
  · intro i x hx
    refine ⟨x, ?_, ?_⟩
    · rw [List.getElem?_map] at hx
      rw [← hcd, Array.getElem?_append_left (by
        cases hb : s.data.toList[i]? with
        | none => rw [hb] at hx; cases hx
        | some b => simpa using (List.getElem?_eq_some_iff.mp hb).1), Array.getElem?_map]
      simpa using hx
    · rw [List.getElem?_map] at hx
      cases hb : s.data.toList[i]? with
      | none => rw [hb] at hx; cases hx
      | some b => rw [hb] at hx; cases hx; exact .int _ _
  · rw [← hsz]
    refine mk_slice σ _ rfl hq (fun h => absurd h (Nat.lt_irrefl _)) fun _ => ?_
    show q * P.cellsOf e ≤ c.size
    rw [h4, hcs]; omega

theorem bytesOfL_cons (v : Value) (l : List Value) : bytesOfL (v :: l) = match v with
    | .int .u8 n => match bytesOfL l with
      | some r => some (UInt8.ofNat n.toNat :: r)
      | none => none
    | _ => none := rfl

theorem bytesOfL_spec : ∀ {l : List Value} {b : List UInt8}, bytesOfL l = some b → ∃ ns : List Int, l = ns.map (Value.int .u8) ∧ b = ns.map fun n => UInt8.ofNat n.toNat := by
  intro l
  induction l with
  | nil => intro b h; cases h; exact ⟨[], rfl, rfl⟩
  | cons v l ih =>
    intro b h
    rw [bytesOfL_cons] at h
    split at h
    · rename_i n
      split at h
      · rename_i r hr
        cases h
        obtain ⟨ns, h1, h2⟩ := ih hr
        exact ⟨n :: ns, by rw [h1]; rfl, by rw [h2]; rfl⟩
      · cases h
    · cases h

theorem push_all : ∀ (ns : List Int) (acc : List UInt8), ns.foldl (fun (r : ByteArray) n => r.push (UInt8.ofNat n.toNat)) ⟨acc.toArray⟩ = ⟨(acc ++ ns.map fun n => UInt8.ofNat n.toNat).toArray⟩ := by
  intro ns
  induction ns with
  | nil => intro acc; simp
  | cons n ns ih =>
    intro acc
    rw [List.foldl_cons]
    have : (ByteArray.push ⟨acc.toArray⟩ (UInt8.ofNat n.toNat)) = ⟨(acc ++ [UInt8.ofNat n.toNat]).toArray⟩ := by
      show ByteArray.mk _ = _
      congr 1
      simp
    rw [this, ih]
    simp

theorem toString_sound (hr : Rel P N ρ σ w) {src dst e : TypeId} (h1 : P.underlying src = some (.slice e)) (h2 : P.underlying dst = some .string) (h3 : P.underlying e = some (.int .u8)) {k off len cap : Nat} {l : List Value} {b : List UInt8} {v' : Value}
    (hl : aLoad σ k off len = some l) (hb : bytesOfL l = some b) (hv : VRel ρ (.slice (some ⟨k, off, none⟩) len cap) v') : (convert src dst v').run P w = .ok (.string ⟨b.toArray⟩) w := by
  cases hv with
  | slice _ _ _ _ p off' cap' hp hle ha hc hs =>
    obtain ⟨hlen, l', hl', hcell⟩ := aLoad_sound hr hl hp
    obtain ⟨ns, rfl, rfl⟩ := bytesOfL_spec hb
    have hsame : l' = ns.map (Value.int .u8) := by
      apply List.ext_getElem?
      intro i
      have hll := hl'.length
      cases hx : (ns.map (Value.int .u8))[i]? with
      | none =>
        rw [List.getElem?_eq_none_iff] at hx ⊢
        omega
      | some x =>
        obtain ⟨y, hy, hxy⟩ := hl'.get i x hx
        rw [List.getElem?_map] at hx
        cases hn : ns[i]? with
        | none => rw [hn] at hx; cases hx
        | some m =>
          rw [hn] at hx; cases hx
          cases hxy
          rw [hy]
    rw [run_convert_bytes_string w src dst e _ _ _ h1 h3 h2]
    have hload : (loadCells ⟨p.b, off', none⟩ len).run P w = .ok (ns.map (Value.int .u8)).toArray w := by
      by_cases h0 : len = 0
      · subst h0
        have : ns = [] := by simpa using hlen
        subst this
        rfl
      · have hoff : off' = p.o + off := ha.resolve_left (by omega)
        subst hoff
        subst hsame
        have := run_loadCells_list (P := P) (w := w) ⟨p.b, p.o + off, none⟩ _ hcell
        rw [hlen] at this
        exact this
    rw [run_bytesToString w _ _ _ ns hload]
    have := push_all ns []
    simp only [List.nil_append] at this
    exact congrArg (fun z => Result.ok (Value.string z) w) this

/-! ### Pointers made unsafe, and strings over a row -/

theorem rowAt_mono {fits : TypeId → Bool} {e : TypeId} {count count' off n : Nat} (hc : count ≤ count') : ∀ (d : Nat), rowAt P fits d e count off n = true → rowAt P fits d e count' off n = true
  | 0, h => by simp [rowAt] at h
  | d + 1, h => by
    unfold rowAt at h ⊢
    simp only at h ⊢
    split at h
    · cases h
    · rename_i h0
      rw [if_neg h0]
      rw [Bool.or_eq_true] at h ⊢
      rcases h with h | h
      · left
        simp only [Bool.and_eq_true, decide_eq_true_eq] at h ⊢
        exact ⟨⟨h.1.1, by omega⟩, h.2⟩
      · right
        rw [Bool.and_eq_true] at h ⊢
        refine ⟨?_, h.2⟩
        have := of_decide_eq_true h.1
        exact decide_eq_true (by omega)

theorem liesAt_mono {e : TypeId} {count count' off : Nat} (hc : count ≤ count') : ∀ (d : Nat) (u : TypeId) (n : Nat), liesAt P d e count off u n = true → liesAt P d e count' off u n = true
  | 0, _, _, h => by simp [liesAt] at h
  | d + 1, u, n, h => by
    unfold liesAt at h ⊢
    rw [Bool.or_eq_true] at h ⊢
    rcases h with h | h
    · exact .inl (rowAt_mono hc _ h)
    · right
      split at h
      · exact liesAt_mono hc d _ _ h
      · cases h

theorem unsafe_sound (hr : Rel P N ρ σ w) {src dst : TypeId} {k off : Nat} {r : ORes} (h : eUnsafe P σ src dst k off = some r) {p : Pl} (hp : ρ k = some p) :
    r = .val (.pointer (some ⟨k, off, none⟩)) ∧ (convert src dst (.pointer (some ⟨p.b, p.o + off, none⟩))).run P w = .ok (.pointer (some ⟨p.b, p.o + off, none⟩)) w := by
  unfold eUnsafe at h
  split at h
  · rename_i t cells len elem cls pos h1 h2 hg
    split at h
    · rename_i i hi
      split at h
      · rename_i hc
        cases h
        simp only [Bool.and_eq_true] at hc
        obtain ⟨⟨hv, ho⟩, hs⟩ := hc
        have ho : off < len := Nat.le_of_ble_eq_true ho
        have hs : i.size ≠ 0 := fun e => by rw [e] at hs; cases hs
        obtain ⟨_, c, fz, hrow⟩ := hr.obj k p _ hp hg
        obtain ⟨hin, _⟩ := hrow.holds hv
        refine ⟨rfl, ?_⟩
        have hsh : w.shape? p.b = some (elem, c.size) := by simp [World.shape?, hrow.at']
        have hlt : ¬ c.size ≤ p.o + off := by omega
        simp [convert, run_underlying h1, run_underlying h2, Conv.unsafePointer, Conv.seenAt, viewAt, cellsIn, hsh, sizeOf, typeInfo, hi, hs, hlt]
      · cases h
    · cases h
  · rename_i u cells len elem cls pos h1 h2 hg
    split at h
    · rename_i i hi
      split at h
      · rename_i hc
        cases h
        simp only [Bool.and_eq_true] at hc
        obtain ⟨⟨hv, hps⟩, hl⟩ := hc
        have hps := Nat.eq_of_beq_eq_true hps
        obtain ⟨_, c, fz, hrow⟩ := hr.obj k p _ hp hg
        obtain ⟨hin, _⟩ := hrow.holds hv
        have hb := hrow.base hps
        refine ⟨rfl, ?_⟩
        have hsh : w.shape? p.b = some (elem, c.size) := by simp [World.shape?, hrow.at']
        have hlies := liesAt_mono (P := P) (off := off) (Nat.div_le_div_right (c := P.cellsOf elem) (show len ≤ c.size by omega)) _ _ _ hl
        rw [hb, Nat.zero_add]
        simp [convert, run_underlying h1, run_underlying h2, Conv.unsafePointer, Conv.seenAt, viewAt, hsh, variablesAt, hlies, sizeOf, typeInfo, hi]
      · cases h
    · cases h
  · cases h

theorem loadBytes_run : ∀ (ns : List Int) (a : Addr) (acc : ByteArray), (∀ j x, (ns.map (Value.int .u8))[j]? = some x → w.cell? (a.add j) = some x) →
    (loadBytes a acc ns.length).run P w = .ok ⟨acc.data ++ (ns.map fun n => UInt8.ofNat n.toNat).toArray⟩ w
  | [], a, acc, _ => by simp [loadBytes]
  | x :: l, a, acc, h => by
    have h0 : w.cell? a = some (.int .u8 x) := by
      have := h 0 _ rfl
      simpa [Addr.add] using this
    have ih := loadBytes_run l (a.add 1) (acc.push x.toNat.toUInt8) (fun j y hy => by
      have := h (j + 1) y (by simpa using hy)
      have e : (a.add 1).add j = a.add (j + 1) := by
        unfold Addr.add
        by_cases hj : j = 0
        · subst hj; simp
        · simp [hj]; omega
      rw [e]; exact this)
    simp only [List.length_cons, loadBytes, Sem.run_bind, run_load, h0, Result.andThen]
    rw [ih]
    congr 1
    apply ByteArray.ext
    simp [ByteArray.push, Nat.toUInt8]

/-- The world freezes some of a row; of its class every place may be frozen from now on. -/
theorem markRo_rel (hr : Rel P N ρ σ w) {k : Nat} {cells : Tr Value} {len elem cls pos : Nat} (hg : σ.heap.get k = some (.row cells len elem cls pos)) {p : Pl} (hp : ρ k = some p) (hro : (clsAt σ cls k (pos + len)).ro = false)
    {w' : World} (hsz : w'.heap.size = w.heap.size) (hoth : ∀ i, i ≠ p.b → w'.heap[i]? = w.heap[i]?) (hsame : ∀ c fz, w.heap[p.b]? = some (.cells c elem fz) → ∃ fz', w'.heap[p.b]? = some (.cells c elem fz')) :
    N ≤ p.b ∧ Rel P N ρ (σ.markRo cls k (pos + len)) w' := by
  have hget : ∀ c, (σ.markRo cls k (pos + len)).cls.get c = if c = cls then some { clsAt σ cls k (pos + len) with ro := true } else σ.cls.get c := fun c => by
    show (σ.cls.set _ _).get c = _
    rw [Tr.get_set]
  have hN : N ≤ p.b := by
    have h2 := (hr.dom k p hp).2.2 _ hg
    rcases h2 with h2 | h2
    · exact h2
    · exfalso
      obtain ⟨x, hx, hf⟩ := h2 ((clsAt σ cls k (pos + len)).hi)
      have hx : σ.cls.get cls = some x := hx
      have hcx : clsAt σ cls k (pos + len) = x := by unfold clsAt; rw [hx]
      rw [hcx] at hf hro
      rcases hf with h3 | h3
      · rw [hro] at h3; cases h3
      · omega
  have hfrz : ∀ c i, σ.maybeFrozen c i → (σ.markRo cls k (pos + len)).maybeFrozen c i := fun c i ⟨x, hx, hf⟩ => by
    by_cases e : c = cls
    · exact ⟨_, by rw [hget, if_pos e], .inl rfl⟩
    · exact ⟨x, by rw [hget, if_neg e]; exact hx, hf⟩
  have hall : ∀ i, (σ.markRo cls k (pos + len)).maybeFrozen cls i := fun i => ⟨_, by rw [hget, if_pos rfl], .inl rfl⟩
  have hstk := clsAt_stack hr hg hp
  have hold : ∀ j e, (j, e) ∈ (clsAt σ cls k (pos + len)).stack → σ.cls.get cls = none → j = k ∧ e = pos + len := fun j e hm hn => by
    unfold clsAt at hm
    rw [hn] at hm
    simpa using hm
  have hval : ∀ j c, (σ.markRo cls k (pos + len)).valid j c = true → σ.valid j c = true := fun j c hv => by
    unfold St.valid at hv ⊢
    rw [hget] at hv
    by_cases e : c = cls
    · subst e
      rw [if_pos rfl] at hv
      cases hx : σ.cls.get c with
      | none => rfl
      | some x =>
        have hcx : clsAt σ c k (pos + len) = x := by unfold clsAt; rw [hx]
        simpa [hcx] using hv
    · rw [if_neg e] at hv
      exact hv
  have hends : ∀ j ob q, ρ j = some q → σ.heap.get j = some ob → ∀ x', (σ.markRo cls k (pos + len)).cls.get (ob.clsOf j) = some x' → ∀ e, (j, e) ∈ x'.stack → (∃ x, σ.cls.get (ob.clsOf j) = some x ∧ (j, e) ∈ x.stack) ∨ (j = k ∧ e = pos + len) := fun j ob q _ _ x' hx' e hm => by
    rw [hget] at hx'
    by_cases ec : ob.clsOf j = cls
    · rw [if_pos ec] at hx'
      cases hx'
      cases hx : σ.cls.get cls with
      | none => exact .inr (hold j e hm hx)
      | some x => exact .inl ⟨x, by rw [ec]; exact hx, (hstk j e hm).2.2 x hx⟩
    · rw [if_neg ec] at hx'
      exact .inl ⟨x', hx', hm⟩
  refine ⟨hN, fun j q hj => ?_, hr.above, fun c x hx => ?_, fun j q ob hj ho => ?_, hr.sep, fun j j' o1 o2 ho ho' hc hn => ?_, hr.glob, by rw [hsz]; exact hr.size⟩
  · obtain ⟨h1, h2, h3⟩ := hr.dom j q hj
    exact ⟨by rw [hsz]; exact h1, h2, fun ob ho => (h3 ob ho).imp id fun h i => hfrz _ _ (h i)⟩
  · rw [hget] at hx
    by_cases e : c = cls
    · rw [if_pos e] at hx
      cases hx
      subst e
      exact ⟨(hr.above k _ hg).2, fun j e' hm => (hstk j e' hm).1⟩
    · rw [if_neg e] at hx
      exact hr.clsAbove c x hx
  · have hO := hr.obj j q ob hj ho
    by_cases eb : q.b = p.b
    · obtain ⟨hcl, hal⟩ := hr.sep j k q p ob _ hj hp eb ho hg
      obtain ⟨_, c0, fz0, hrow0⟩ := hr.obj k p _ hp hg
      cases ob with
      | row cells' len' elem' cls' pos' =>
        simp only [AObj.clsOf] at hcl
        subst hcl
        obtain ⟨hz, c, fz, hrow⟩ := hO
        have h1 := hrow.at'
        rw [eb, hrow0.at'] at h1
        cases h1
        obtain ⟨fz', h2⟩ := hsame _ _ hrow0.at'
        refine ⟨hz, _, fz', ⟨by rw [eb]; exact h2, hrow.size, hrow.within, fun hv => hrow.holds (hval _ _ hv), fun i _ hn => absurd (hall _) hn, fun x' hx' e hm => ?_, hrow.base⟩⟩
        rcases hends j _ q hj ho x' hx' e hm with ⟨x, h3, h4⟩ | ⟨rfl, rfl⟩
        · exact hrow.ends x h3 e h4
        · have ho : σ.heap.get _ = some (AObj.row cells' len' _ _ pos') := ho
          rw [hg] at ho
          cases ho
          rfl
      | map es clock =>
        obtain ⟨es', h1, _⟩ := hO
        rw [eb, hrow0.at'] at h1; cases h1
      | mapIter m since seen stepped =>
        obtain ⟨_, m', h1, _⟩ := hO
        rw [eb, hrow0.at'] at h1; cases h1
      | strIter s' pos' =>
        have h1 := hO.2
        rw [eb, hrow0.at'] at h1; cases h1
      | bag es =>
        obtain ⟨es', c', es1, h1, _⟩ := hO
        rw [eb, hrow0.at'] at h1; cases h1
    · refine hO.later (Loc.le_refl _) (hoth _ eb) (hval _ _) (fun i => hfrz _ i) fun x' hx' e hm => ?_
      rcases hends j ob q hj ho x' hx' e hm with h | ⟨rfl, _⟩
      · exact h
      · rw [hp] at hj
        cases hj
        exact absurd rfl eb
  · by_cases e : o1.clsOf j = cls
    · rw [e, hget, if_pos rfl] at hn
      cases hn
    · rw [hget, if_neg e] at hn
      exact hr.lone j j' o1 o2 ho ho' hc hn

theorem string_zero {argTypes : Array TypeId} {pt ty : TypeId} (ht : argTypes[0]? = some pt) (q : Option Addr) (kd : IntKind) :
    (Builtin.unsafeString_ argTypes ty #[.pointer q, .int kd 0]).run P w = .ok (.string ⟨⟨[]⟩⟩) w := by
  have hi : IntKind.i64.max = 9223372036854775807 := rfl
  cases q with
  | none =>
    have hdef : Builtin.unsafeString_ argTypes ty #[.pointer none, .int kd 0] =
        (do
          let n ← asInt (.int kd 0)
          let some _ := argTypes[0]? | stuck "unsafe.String: no argument types"
          if n < 0 then runtimePanic (.error "unsafe.String: len out of range")
          if n > IntKind.i64.max then unsupported (.unsafePointer "String: a length above the largest int")
          if n = 0 then pure (.string .empty)
          else runtimePanic (.error "unsafe.String: ptr is nil and len is not zero")) := rfl
    rw [hdef]
    simp [ht, asInt, asIntOf, hi]
    rfl
  | some b =>
    have hdef : Builtin.unsafeString_ argTypes ty #[.pointer (some b), .int kd 0] =
        (do
          let n ← asInt (.int kd 0)
          let some pt := argTypes[0]? | stuck "unsafe.String: no argument types"
          if n < 0 then runtimePanic (.error "unsafe.String: len out of range")
          if n > IntKind.i64.max then unsupported (.unsafePointer "String: a length above the largest int")
          if n = 0 then pure (.string .empty)
          else if ← variablesAt b (← elemOf pt) n.toNat then do
            let s ← loadBytes b .empty n.toNat
            freeze b n.toNat
            pure (.string s)
          else unsupported (.unsafePointer "String: not so many bytes at ptr")) := rfl
    rw [hdef]
    simp [ht, asInt, asIntOf, hi]
    rfl

theorem string_sound (hr : Rel P N ρ σ w) {argTypes : Array TypeId} {pt ty : TypeId} (ht : argTypes[0]? = some pt) {k off m : Nat} {kd : IntKind} {r : ORes} (h : eString P σ pt k off (m + 1) = some r) {p : Pl} (hp : ρ k = some p) :
    ∃ v w' σ', r = .upd (.string v) σ' ∧ (Builtin.unsafeString_ argTypes ty #[.pointer (some ⟨p.b, p.o + off, none⟩), .int kd (Int.ofNat (m + 1))]).run P w = .ok (.string v) w' ∧ σ'.next = σ.next ∧ Rel P N ρ σ' w' ∧ Below N w w' := by
  unfold eString at h
  split at h
  · rename_i e cells len elem cls pos h1 hg
    split at h
    · rename_i l hc hl
      split at h
      · rename_i b hb
        cases h
        simp only [Bool.and_eq_true, Bool.not_eq_true'] at hc
        obtain ⟨⟨⟨he, hone⟩, hro⟩, hmax⟩ := hc
        have he := Nat.eq_of_beq_eq_true he
        subst he
        have hone := Nat.eq_of_beq_eq_true hone
        have hmax : m + 1 ≤ 9223372036854775807 := Nat.le_of_ble_eq_true hmax
        obtain ⟨hlen, l', hl', hcell⟩ := aLoad_sound hr hl hp
        obtain ⟨ns, rfl, rfl⟩ := bytesOfL_spec hb
        have hsame : l' = ns.map (Value.int .u8) := by
          apply List.ext_getElem?
          intro i
          have hll := hl'.length
          cases hx : (ns.map (Value.int .u8))[i]? with
          | none =>
            rw [List.getElem?_eq_none_iff] at hx ⊢
            omega
          | some x =>
            obtain ⟨y, hy, hxy⟩ := hl'.get i x hx
            rw [List.getElem?_map] at hx
            cases hn : ns[i]? with
            | none => rw [hn] at hx; cases hx
            | some q =>
              rw [hn] at hx; cases hx
              cases hxy
              rw [hy]
        subst hsame
        have hnl : ns.length = m + 1 := by simpa using hlen
        obtain ⟨_, c, fz, hrow⟩ := hr.obj k p _ hp hg
        have hlast : p.o + off + m < c.size := by
          have := hcell m (.int .u8 (ns[m]'(by omega))) (by simp [hnl])
          unfold Addr.add at this
          by_cases hm0 : m = 0
          · subst hm0
            simp only [if_pos] at this
            rw [cell_of_block hrow.at'] at this
            have := (Array.getElem?_eq_some_iff.mp this).1
            omega
          · simp only [hm0, if_false] at this
            rw [cell_of_block hrow.at'] at this
            have := (Array.getElem?_eq_some_iff.mp this).1
            omega
        have hsh : w.shape? p.b = some (elem, c.size) := by simp [World.shape?, hrow.at']
        have hlb := loadBytes_run (P := P) ns ⟨p.b, p.o + off, none⟩ .empty hcell
        have hlies : liesAt P P.depth elem (c.size / P.cellsOf elem) (p.o + off) elem (m + 1) = true := by
          have hd : P.depth = (2 * (P.types.size + Made.depth) + 1) + 1 := rfl
          rw [hd]
          simp only [liesAt, Bool.or_eq_true]
          left
          rw [hd]
          have : p.o + off + (m + 1) ≤ c.size := by omega
          simp [rowAt, hone, this, sameLayout, Nat.mod_one]
        refine ⟨_, w.freeze ⟨p.b, p.o + off, none⟩ (m + 1), _, rfl, ?_, rfl, ?_⟩
        · have hdef : Builtin.unsafeString_ argTypes ty #[.pointer (some ⟨p.b, p.o + off, none⟩), .int kd (Int.ofNat (m + 1))] =
            (do
              let n ← asInt (.int kd (Int.ofNat (m + 1)))
              let some pt := argTypes[0]? | stuck "unsafe.String: no argument types"
              if n < 0 then runtimePanic (.error "unsafe.String: len out of range")
              if n > IntKind.i64.max then unsupported (.unsafePointer "String: a length above the largest int")
              if n = 0 then pure (.string .empty)
              else if ← variablesAt ⟨p.b, p.o + off, none⟩ (← elemOf pt) n.toNat then do
                let s ← loadBytes ⟨p.b, p.o + off, none⟩ .empty n.toNat
                freeze ⟨p.b, p.o + off, none⟩ n.toNat
                pure (.string s)
              else unsupported (.unsafePointer "String: not so many bytes at ptr")) := rfl
          rw [hdef]
          have hi : IntKind.i64.max = 9223372036854775807 := rfl
          have hn1 : ¬ (Int.ofNat (m + 1) < 0) := by simp; omega
          have hn2 : ¬ (9223372036854775807 < Int.ofNat (m + 1)) := by simp; omega
          have hn3 : ¬ (Int.ofNat (m + 1) = 0) := by simp; omega
          have hn4 : (Int.ofNat (m + 1)).toNat = m + 1 := rfl
          rw [hnl] at hlb
          simp only [asInt, asIntOf, ht, hi, Sem.run_bind, Sem.run_pure, Result.andThen_ok, if_neg hn1, if_neg hn2, if_neg hn3, hn4, elemOf, run_underlying h1, variablesAt, run_program, run_shape, hsh, hlies, if_true, hlb, run_freeze]
          show Result.ok (Value.string ⟨#[] ++ _⟩) _ = _
          rw [Array.empty_append]
        · have hfs : (w.freeze ⟨p.b, p.o + off, none⟩ (m + 1)).heap.size = w.heap.size := by simp [World.freeze]
          have hfo : ∀ i, i ≠ p.b → (w.freeze ⟨p.b, p.o + off, none⟩ (m + 1)).heap[i]? = w.heap[i]? := fun i hi => by
            simp [World.freeze, Array.getElem?_modify, Ne.symm hi]
          obtain ⟨g1, g2⟩ := markRo_rel hr hg hp hro (w' := w.freeze ⟨p.b, p.o + off, none⟩ (m + 1)) hfs hfo fun c' fz' hc' => by
            simp [World.freeze, Array.getElem?_modify, hc']
          exact ⟨g2, rfl, rfl, rfl, by omega, fun i hi => hfo i (by omega)⟩
      · cases h
    · cases h
  · cases h

end
end Go.Ke
