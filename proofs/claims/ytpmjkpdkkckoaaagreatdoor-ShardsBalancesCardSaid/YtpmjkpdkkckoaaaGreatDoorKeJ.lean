/- Each operation of the abstract run, against the model's: maps that turn, iterators, stores, copies. No condition. -/
import Derived.Test.YtpmjkpdkkckoaaaGreatDoorKeI
namespace Go.Ke
open Go.RowKit (Below)

section
variable {P : Program} {N : Nat} {ρ : Loc} {σ : St} {w : World} {T : Tr Value} {a : Act}

theorem bytes_eq {s s' : ByteArray} (h : (s.data.toList == s'.data.toList) = true) : s = s' :=
  ByteArray.ext (Array.toList_inj.1 (eq_of_beq h))

theorem okPair2 {u u' v v' : Value} (h : VRel ρ u u') (h' : VRel ρ v v') : VRel ρ (.tuple #[u, v]) (.tuple #[u', v']) := by
  refine .tuple _ _ rfl fun i h1 h2 => ?_
  have : i = 0 ∨ i = 1 := by simp at h1; omega
  rcases this with rfl | rfl
  · exact h
  · exact h'

theorem veq1_eq {x y : Value} (h : veq1 x y = true) : x = y := by
  unfold veq1 at h
  split at h <;> first
    | rfl
    | (cases h; done)
    | (rename_i s s'; rw [bytes_eq h]; done)
    | (simp at h; subst h; rfl)
    | (simp at h; obtain ⟨rfl, rfl⟩ := h; rfl)
    | (simp only [Bool.and_eq_true] at h
       obtain ⟨⟨h1, h2⟩, h3⟩ := h
       obtain rfl := of_decide_eq_true h1
       obtain rfl := Nat.eq_of_beq_eq_true h2
       obtain rfl := Nat.eq_of_beq_eq_true h3
       rfl)

theorem veqL_eq : ∀ {x y : List Value}, veqL x y = true → x = y := by
  intro x
  induction x with
  | nil => intro y h; cases y with
    | nil => rfl
    | cons b y => cases h
  | cons u x ih => intro y h; cases y with
    | nil => cases h
    | cons v y =>
      change @Bool.rec (fun _ => Bool) false (veqL x y) (veq1 u v) = true at h
      cases hv : veq1 u v with
      | false => rw [hv] at h; cases h
      | true => rw [hv] at h; rw [veq1_eq hv, ih h]

theorem veqLf_eq {f : Value → Value → Bool} (hf : ∀ x y, f x y = true → x = y) : ∀ {x y : List Value}, veqLf f x y = true → x = y := by
  intro x
  induction x with
  | nil =>
    intro y h
    cases y with
    | nil => rfl
    | cons _ _ => cases h
  | cons u x ih =>
    intro y h
    cases y with
    | nil => cases h
    | cons v y =>
      change @Bool.rec (fun _ => Bool) false (veqLf f x y) (f u v) = true at h
      cases hv : f u v with
      | false => rw [hv] at h; cases h
      | true => rw [hv] at h; rw [hf _ _ hv, ih h]

theorem veqS_eq : ∀ (n : Nat) (x y : Value), veqS n x y = true → x = y := by
  intro n
  induction n with
  | zero => intro x y h; exact veq1_eq h
  | succ n ih =>
    intro x y h
    unfold veqS at h
    simp only at h
    split at h
    · rw [Array.toList_inj.1 (veqLf_eq ih h)]
    · rw [Array.toList_inj.1 (veqLf_eq ih h)]
    · simp only [Bool.and_eq_true] at h
      rw [Nat.eq_of_beq_eq_true h.1.1, Array.toList_inj.1 (veqLf_eq ih h.1.2), Array.toList_inj.1 (veqLf_eq ih h.2)]
    · simp only [Bool.and_eq_true] at h
      rw [Nat.eq_of_beq_eq_true h.1, ih _ _ h.2]
    · exact veq1_eq h

theorem veq_eq {x y : Value} (h : veq x y = true) : x = y := veqS_eq 6 x y h

theorem allScalar_mem : ∀ {l : List Value}, allScalar l = true → ∀ v ∈ l, scalar1 v = true := by
  intro l
  induction l with
  | nil => intro _ v hv; cases hv
  | cons x l ih =>
    intro h v hv
    change @Bool.rec (fun _ => Bool) false (allScalar l) (scalar1 x) = true at h
    cases hx : scalar1 x with
    | false => rw [hx] at h; cases h
    | true =>
      rw [hx] at h
      cases hv with
      | head => exact hx
      | tail _ hv => exact ih h v hv

theorem sameBits_scalar {v : Value} (h : scalar1 v = true) (n : Nat) : Instr.sameBits n v v = true := by
  unfold scalar1 at h
  split at h <;> first | (cases h; done) | (cases n <;> simp [Instr.sameBits]; done) | (cases n <;> simp [Instr.sameBits, beq_toListBytes])

theorem sameBits_cells {v : Value} (h : allScalar v.cells.toList = true) (n : Nat) : Instr.sameBits (n + 1) v v = true := by
  cases v with
  | agg cs =>
    unfold Instr.sameBits
    simp only [beq_self_eq_true, Bool.true_and, List.all_eq_true]
    have hm := allScalar_mem h
    have key : ∀ l : List Value, (∀ v ∈ l, scalar1 v = true) → ∀ x ∈ l.zip l, Instr.sameBits n x.1 x.2 = true := by
      intro l
      induction l with
      | nil => intro _ x hx; simp at hx
      | cons u l ih =>
        intro hl x hx
        rw [List.zip_cons_cons] at hx
        cases hx with
        | head => exact sameBits_scalar (hl u (by simp)) n
        | tail _ hx => exact ih (fun v hv => hl v (by simp [hv])) x hx
    exact key cs.toList hm
  | _ => exact sameBits_scalar (allScalar_mem h _ (List.Mem.head _)) (n + 1)

theorem keyOk_same {t : TypeId} {v : Value} (h : keyOk P t v = true) : Instr.sameBits 10000 v v = true := by
  unfold keyOk at h
  simp only [Bool.and_eq_true] at h
  exact sameBits_cells h.1.2 9999

theorem stays {v : Value} (h : Instr.sameBits 10000 v v = true) (w : World) : (Instr.keyThatStays v v).run P w = .ok v w := by
  unfold Instr.keyThatStays
  rw [if_pos h]
  rfl

theorem F2.length {α β : Type} {R : α → β → Prop} {l : List α} {l' : List β} (h : F2 R l l') : l.length = l'.length := by
  induction h with
  | nil => rfl
  | cons _ _ ih => simp [ih]

theorem F2.append {α β : Type} {R : α → β → Prop} {l m : List α} {l' m' : List β} (h : F2 R l l') (h' : F2 R m m') : F2 R (l ++ m) (l' ++ m') := by
  induction h with
  | nil => exact h'
  | cons h _ ih => exact .cons h ih

theorem setE_rel {e e' : MapEntry} (he : ERel ρ e e') : ∀ {l l' : List MapEntry}, F2 (ERel ρ) l l' → ∀ i, F2 (ERel ρ) (setE e l i) (l'.set i e') := by
  intro l l' h
  induction h with
  | nil => intro i; exact .nil
  | cons hx ht ih =>
    intro i
    cases i with
    | zero => exact .cons he ht
    | succ i => exact .cons hx (ih i)

theorem dropE_rel : ∀ {l l' : List MapEntry}, F2 (ERel ρ) l l' → ∀ i, F2 (ERel ρ) (dropE l i) (l'.eraseIdx i) := by
  intro l l' h
  induction h with
  | nil => intro i; exact .nil
  | cons hx ht ih =>
    intro i
    cases i with
    | zero => exact ht
    | succ i => exact .cons hx (ih i)

theorem run_setMap {b : Nat} {es es' : Array MapEntry} {c c' : Nat} (h : w.heap[b]? = some (.map es c)) : (setObj b (.map es' c')).run P w = .ok () { w with heap := w.heap.setIfInBounds b (.map es' c') } := by
  simp only [setObj, Sem.run, h]

/-- A map that turns. -/
theorem putMap_sound (hr : Rel P N ρ σ w) {k : Nat} {p : Pl} (hp : ρ k = some p) {es es1 : List MapEntry} {clock c1 : Nat} {es' es1' : Array MapEntry} (hg : σ.heap.get k = some (.map es clock)) (hb : w.heap[p.b]? = some (.map es' clock))
    (he : F2 (ERel ρ) es1 es1'.toList) (hn : σ.cls.get k = none) : Rel P N ρ (putMap σ k es1 c1) { w with heap := w.heap.setIfInBounds p.b (.map es1' c1) } ∧ Below N w { w with heap := w.heap.setIfInBounds p.b (.map es1' c1) } := by
  have hlt : p.b < w.heap.size := (hr.dom k p hp).1
  have hN : N ≤ p.b := by
    have hor := (hr.dom k p hp).2.2 _ hg
    rcases hor with h1 | h1
    · exact h1
    · obtain ⟨x, hx, _⟩ := h1 0
      have hx' : σ.cls.get k = some x := hx
      rw [hn] at hx'; cases hx'
  refine ⟨put_sound hr hp hg ⟨rfl, rfl⟩ ⟨rfl, rfl⟩ (fun c e f h => by rw [hb] at h; cases h) ⟨es1', by simp [hlt], he⟩ (fun i hi => by simp [Ne.symm hi]) (by simp), ⟨rfl, rfl, rfl, by simp, fun i hi => ?_⟩⟩
  show (w.heap.setIfInBounds p.b _)[i]? = _
  rw [Array.getElem?_setIfInBounds, if_neg (by omega)]

/-- A map whose entries' order is not known turns. -/
theorem putBag_sound (hr : Rel P N ρ σ w) {k : Nat} {p : Pl} (hp : ρ k = some p) {ob : AObj} (hg : σ.heap.get k = some ob) (hk : ob.clsOf k = k ∧ ob.posOf = 0) {es1 : List (Value × Value)} {c c1 : Nat} {es' es1' : Array MapEntry} (hb : w.heap[p.b]? = some (.map es' c))
    {l : List MapEntry} (he : F2 (ERel ρ) l es1'.toList) (hpm : (l.map fun e => (e.key, e.val)).Perm es1) (hn : σ.cls.get k = none) : Rel P N ρ (putBag σ k es1) { w with heap := w.heap.setIfInBounds p.b (.map es1' c1) } ∧ Below N w { w with heap := w.heap.setIfInBounds p.b (.map es1' c1) } := by
  have hlt : p.b < w.heap.size := (hr.dom k p hp).1
  have hN : N ≤ p.b := by
    have hor := (hr.dom k p hp).2.2 _ hg
    rcases hor with h1 | h1
    · exact h1
    · obtain ⟨x, hx, _⟩ := h1 0
      rw [hk.1, hn] at hx; cases hx
  refine ⟨put_sound hr hp hg hk ⟨rfl, rfl⟩ (fun c e f h => by rw [hb] at h; cases h) ⟨es1', c1, l, by simp [hlt], he, hpm⟩ (fun i hi => by simp [Ne.symm hi]) (by simp), ⟨rfl, rfl, rfl, by simp, fun i hi => ?_⟩⟩
  show (w.heap.setIfInBounds p.b _)[i]? = _
  rw [Array.getElem?_setIfInBounds, if_neg (by omega)]

theorem found_some {l l' : List MapEntry} {i : Nat} {e : MapEntry} {r : Option (Nat × Value)} (h : FoundRel ρ l l' 0 (some (i, e)) r) :
    ∃ e', r = some (i, e'.val) ∧ l[i]? = some e ∧ l'[i]? = some e' ∧ ERel ρ e e' := by
  cases r with
  | none => exact h.elim
  | some x =>
    obtain ⟨j, v⟩ := x
    obtain ⟨h1, _, h2, e', h3, h4, h5⟩ := h
    subst h1
    subst h5
    exact ⟨e', rfl, by simpa using h2, by simpa using h3, h4⟩

theorem found_none {l l' : List MapEntry} {r : Option (Nat × Value)} (h : FoundRel ρ l l' 0 none r) : r = none := by
  cases r with
  | none => rfl
  | some x => exact h.elim

theorem modify_set (es : Array MapEntry) (i : Nat) (f : MapEntry → MapEntry) (e : MapEntry) (h : es[i]? = some e) : (es.modify i f).toList = es.toList.set i (f e) := by
  apply List.ext_getElem?
  intro j
  rw [Array.getElem?_toList, Array.getElem?_modify, List.getElem?_set]
  obtain ⟨hi, he⟩ := Array.getElem?_eq_some_iff.1 h
  by_cases hj : i = j
  · subst hj; simp [hi, he]
  · simp [hj]

theorem eUpdate_sound (hr : Rel P N ρ σ w) {t : TypeId} {m m' key key' x x' : Value} {r : ORes} (h : eUpdate P σ t m key x = some r) (hm : VRel ρ m m') (hk : VRel ρ key key') (hx : VRel ρ x x') :
    OpRel P N ρ σ w (do Instr.mapUpdate t m' key' x'; pure .skip) r := by
  unfold eUpdate at h
  split at h
  · rename_i kt et k hmt
    have hu := mapTypes_spec hmt
    cases hm with
    | map _ p hp =>
      split at h
      · rename_i es clock hok hmap
        obtain ⟨hpl, hck⟩ := keyOk_sound hok
        obtain rfl := plainV_eq hk hpl
        obtain ⟨hg, es', hb, hes⟩ := aMap_sound hr hmap hp
        have hn := aMap_free hmap
        have hgm := run_getMap (P := P) hb
        split at h
        · cases h
        · rename_i hfind
          cases h
          obtain ⟨r', h1, h2⟩ := findKey_sound hok hk w hes hfind
          obtain rfl := found_none h2
          have hput := putMap_sound (es1 := es ++ [{ key := key', val := x, born := clock }]) (c1 := clock + 1) (es1' := es'.push { key := key', val := x', born := clock }) hr hp hg hb (by
            rw [Array.toList_push]
            exact hes.append (.cons ⟨hk, hx, rfl⟩ .nil)) hn
          refine ⟨.skip, undef, _, ρ, ?_, .inr ⟨rfl, rfl⟩, Grew.same rfl, undef_rel ρ, hput.1, hput.2⟩
          unfold Instr.mapUpdate
          simp only [Sem.run_bind, run_underlying hu, Result.andThen_ok, hgm, hck, h1, run_setMap hb, Sem.run_pure]
        · rename_i i e hfind
          split at h
          · rename_i hv
            cases h
            obtain ⟨r', h1, h2⟩ := findKey_sound hok hk w hes hfind
            obtain ⟨e', rfl, g1, g2, g3⟩ := found_some h2
            have hkey : e'.key = key' := by
              have g4 := g3.key
              rw [veq_eq hv] at g4
              exact plainV_eq g4 hpl
            have g2' : es'[i]? = some e' := by rw [← Array.getElem?_toList]; exact g2
            have hput := putMap_sound (es1 := setE { e with val := x } es i) (c1 := clock) (es1' := es'.modify i fun e => { e with key := key', val := x' }) hr hp hg hb (by
              rw [modify_set _ _ _ _ g2']
              exact setE_rel (show ERel ρ { e with val := x } { e' with key := key', val := x' } from ⟨by show VRel ρ e.key key'; rw [veq_eq hv]; exact hk, hx, g3.born⟩) hes i) hn
            refine ⟨.skip, undef, _, ρ, ?_, .inr ⟨rfl, rfl⟩, Grew.same rfl, undef_rel ρ, hput.1, hput.2⟩
            unfold Instr.mapUpdate
            simp only [Sem.run_bind, run_underlying hu, Result.andThen_ok, hgm, hck, h1, g2', Option.map_some, Option.getD_some, hkey, stays (keyOk_same hok), run_setMap hb, Sem.run_pure]
          · cases h
      · rename_i hok hmap
        obtain ⟨hpl, hck⟩ := keyOk_sound hok
        obtain rfl := plainV_eq hk hpl
        split at h
        · cases h
        · rename_i es hbag
          obtain ⟨hg, hn, es', c, es1, hb, hes, hpm⟩ := aBag_sound hr hbag hp
          have hgm := run_getMap (P := P) hb
          rw [← findU_perm hpm] at h
          split at h
          · rename_i hfind
            cases h
            obtain ⟨r', h1, h2⟩ := findKey_sound hok hk w hes (findU_none hfind 0)
            obtain rfl := found_none h2
            have hput := putBag_sound (es1 := es ++ [(key', x)]) (c1 := c + 1) (es1' := es'.push { key := key', val := x', born := c }) (l := es1 ++ [{ key := key', val := x, born := c }]) hr hp hg ⟨rfl, rfl⟩ hb (by
              rw [Array.toList_push]
              exact hes.append (.cons ⟨hk, hx, rfl⟩ .nil)) (by
              rw [List.map_append]
              exact hpm.append_right _) hn
            refine ⟨.skip, undef, _, ρ, ?_, .inr ⟨rfl, rfl⟩, Grew.same rfl, undef_rel ρ, hput.1, hput.2⟩
            unfold Instr.mapUpdate
            simp only [Sem.run_bind, run_underlying hu, Result.andThen_ok, hgm, hck, h1, run_setMap hb, Sem.run_pure]
          · cases h
      · rename_i clock hok hmap
        split at h
        · rename_i e q hkt
          cases h
          obtain ⟨hg, es', hb, hes⟩ := aMap_sound hr hmap hp
          have hn := aMap_free hmap
          have hgm := run_getMap (P := P) hb
          have hnil : es'.toList = [] := by
            cases he : es'.toList with
            | nil => rfl
            | cons a l => rw [he] at hes; cases hes
          have hput := putMap_sound (es1 := [{ key := .pointer q, val := x, born := clock }]) (c1 := clock + 1) (es1' := es'.push { key := key', val := x', born := clock }) hr hp hg hb (by
            rw [Array.toList_push, hnil]
            exact .cons ⟨hk, hx, rfl⟩ .nil) hn
          refine ⟨.skip, undef, _, ρ, ?_, .inr ⟨rfl, rfl⟩, Grew.same rfl, undef_rel ρ, hput.1, hput.2⟩
          have hck : (Instr.checkKey false 10000 kt key').run P w = .ok () w := by
            unfold Instr.checkKey
            simp only [Sem.run_bind, run_underlying hkt, Result.andThen_ok]
            rfl
          have hfk : (Instr.findKey kt key' es'.toList).run P w = .ok none w := by
            rw [hnil]
            unfold Instr.findKey
            simp only [Sem.run_bind, run_underlying hkt, Result.andThen_ok]
            simp [Instr.findNow]
          unfold Instr.mapUpdate
          simp only [Sem.run_bind, run_underlying hu, Result.andThen_ok, hgm, hck, hfk, run_setMap hb, Sem.run_pure]
        · cases h
      · cases h
  · cases h

theorem int_toNat (n : Nat) : (Value.int .i64 n) = goInt n := rfl

theorem eMapEntry_sound (hr : Rel P N ρ σ w) {t : TypeId} {m m' key key' : Value} {r : ORes} (h : eMapEntry P σ t m key = some r) (hm : VRel ρ m m') (hk : VRel ρ key key') :
    OpRel P N ρ σ w (do pure (.value (← Instr.mapEntry t m' key'))) r := by
  unfold eMapEntry at h
  split at h
  · rename_i kt et k hmt
    have hu := mapTypes_spec hmt
    cases hm with
    | map _ p hp =>
      split at h
      · rename_i es clock z hok hmap hz
        obtain ⟨hpl, hck⟩ := keyOk_sound hok
        obtain rfl := plainV_eq hk hpl
        obtain ⟨iz, hiz, hzz⟩ := zeroOf_spec hz
        obtain ⟨hg, es', hb, hes⟩ := aMap_sound hr hmap hp
        have hn := aMap_free hmap
        have hgm := run_getMap (P := P) hb
        split at h
        · cases h
        · rename_i hzp
          have hpair : ∀ {u u' : Value} (n : Nat), VRel ρ u u' → VRel ρ (.tuple #[u, .int .i64 n]) (.tuple #[u', .int .i64 n]) := fun n hu => okPair2 hu (.int .i64 n)
          split at h
          · cases h
          · rename_i hfind
            cases h
            obtain ⟨r', h1, h2⟩ := findKey_sound hok hk w hes hfind
            obtain rfl := found_none h2
            have hput := putMap_sound (es1 := es ++ [{ key := key', val := z, born := clock }]) (c1 := clock + 1) (es1' := es'.push { key := key', val := z, born := clock }) hr hp hg hb (by
              rw [Array.toList_push]
              exact hes.append (.cons ⟨hk, plainV_rel ρ hzp, rfl⟩ .nil)) hn
            refine ⟨.value (.tuple #[z, .int .i64 clock]), .tuple #[z, .int .i64 clock], _, ρ, ?_, .inl rfl, Grew.same rfl, hpair clock (plainV_rel ρ hzp), hput.1, hput.2⟩
            unfold Instr.mapEntry
            simp only [Sem.run_bind, run_underlying hu, Result.andThen_ok, hgm, hck, h1, run_zero hiz hzz, run_setMap hb, Sem.run_pure, goInt]
          · rename_i i e hfind
            split at h
            · rename_i hv
              cases h
              obtain ⟨r', h1, h2⟩ := findKey_sound hok hk w hes hfind
              obtain ⟨e', rfl, g1, g2, g3⟩ := found_some h2
              have hkey : e'.key = key' := by
                have g4 := g3.key
                rw [veq_eq hv] at g4
                exact plainV_eq g4 hpl
              have g2' : es'[i]? = some e' := by rw [← Array.getElem?_toList]; exact g2
              have hsame : es'.modify i (fun e => { e with key := key' }) = es' := by
                apply Array.ext_getElem?
                intro j
                rw [Array.getElem?_modify]
                by_cases hj : i = j
                · subst hj; rw [if_pos rfl, g2']; simp [← hkey]
                · rw [if_neg hj]
              have hw : ({ w with heap := w.heap.setIfInBounds p.b (.map es' clock) } : World) = w := by
                have : w.heap.setIfInBounds p.b (.map es' clock) = w.heap := by
                  obtain ⟨hlt, hat⟩ := Array.getElem?_eq_some_iff.1 hb
                  apply Array.ext_getElem?
                  intro j
                  rw [Array.getElem?_setIfInBounds]
                  by_cases hj : p.b = j
                  · subst hj; simp [hlt, hat]
                  · simp [hj]
                rw [this]
              refine ⟨.value (.tuple #[e'.val, .int .i64 e'.born]), .tuple #[e'.val, .int .i64 e'.born], w, ρ, ?_, .inl rfl, Grew.same rfl, ?_, hr, Below.refl _ _⟩
              · unfold Instr.mapEntry
                simp only [Sem.run_bind, run_underlying hu, Result.andThen_ok, hgm, hck, h1, g2', Option.map_some, Option.getD_some, hkey, stays (keyOk_same hok), hsame, run_setMap hb, Sem.run_pure, goInt, hw]
              · rw [g3.born]; exact hpair e.born g3.val
            · cases h
      · cases h
  · cases h

theorem findBorn_cons (n : Nat) (e : MapEntry) (l : List MapEntry) (i : Nat) : findBorn n (e :: l) i = match Nat.beq e.born n with
    | true => some (i, e)
    | false => findBorn n l (i + 1) := rfl

theorem findBorn_sound {n : Nat} : ∀ {l l' : List MapEntry}, F2 (ERel ρ) l l' → ∀ {i j : Nat} {e : MapEntry}, findBorn n l i = some (j, e) →
    i ≤ j ∧ e.born = n ∧ l'.findIdx? (fun e => (e.born : Int) == (n : Int)) = some (j - i) ∧ ∃ e', l'[j - i]? = some e' ∧ l'.find? (fun e => e.born == n) = some e' ∧ ERel ρ e e' := by
  intro l l' h
  induction h with
  | nil => intro i j e h; cases h
  | cons hx ht ih =>
    rename_i x x' l l'
    intro i j e h
    rw [findBorn_cons] at h
    split at h
    · rename_i hb
      cases h
      have hb := Nat.eq_of_beq_eq_true hb
      have hb' : x'.born = n := by rw [hx.born]; exact hb
      refine ⟨Nat.le_refl _, hb, ?_, x', by simp, ?_, hx⟩
      · simp [List.findIdx?_cons, hb']
      · simp [hb']
    · rename_i hb
      have hb : x.born ≠ n := fun e => by rw [e, Nat.beq_refl] at hb; cases hb
      have hb' : x'.born ≠ n := by rw [hx.born]; exact hb
      obtain ⟨g1, g0, g2, e', g3, g4, g5⟩ := ih h
      have hj : j - i = (j - (i + 1)) + 1 := by omega
      refine ⟨by omega, g0, ?_, e', by rw [hj]; simpa using g3, ?_, g5⟩
      · rw [List.findIdx?_cons]
        have hne : ((x'.born : Int) == (n : Int)) = false := by
          rw [beq_eq_false_iff_ne]
          omega
        rw [hne, hj]
        simp [g2]
      · rw [List.find?_cons]
        have hne : (x'.born == n) = false := by rw [beq_eq_false_iff_ne]; exact hb'
        rw [hne]
        exact g4

theorem eEntryStore_sound (hr : Rel P N ρ σ w) {t : TypeId} {m m' s s' x x' : Value} {r : ORes} (h : eEntryStore σ m s x = some r) (hm : VRel ρ m m') (hs : VRel ρ s s') (hx : VRel ρ x x') :
    OpRel P N ρ σ w (do Instr.entryStore t m' s' x'; pure .skip) r := by
  unfold eEntryStore at h
  split at h
  · rename_i k kk n
    cases hs
    cases hm with
    | map _ p hp =>
      split at h
      · cases h
      · rename_i es clock hmap
        obtain ⟨hg, es', hb, hes⟩ := aMap_sound hr hmap hp
        have hn := aMap_free hmap
        have hgm := run_getMap (P := P) hb
        split at h
        · rename_i i e hfind
          cases h
          obtain ⟨_, _, g2, e', g3, _, g5⟩ := findBorn_sound hes hfind
          simp only [Nat.sub_zero] at g2 g3
          have g3' : es'[i]? = some e' := by rw [← Array.getElem?_toList]; exact g3
          have g2' : es'.findIdx? (fun e => (e.born : Int) == Int.ofNat n) = some i := by
            have : es' = es'.toList.toArray := by simp
            rw [this, List.findIdx?_toArray]
            exact g2
          have hput := putMap_sound (es1 := setE { e with val := x } es i) (c1 := clock) (es1' := es'.modify i fun e => { e with val := x' }) hr hp hg hb (by
            rw [modify_set _ _ _ _ g3']
            exact setE_rel (show ERel ρ { e with val := x } { e' with val := x' } from ⟨g5.key, hx, g5.born⟩) hes i) hn
          refine ⟨.skip, undef, _, ρ, ?_, .inr ⟨rfl, rfl⟩, Grew.same rfl, undef_rel ρ, hput.1, hput.2⟩
          unfold Instr.entryStore
          simp only [Sem.run_bind, Result.andThen_ok, hgm, asInt, asIntOf, Sem.run_pure, g2', run_setMap hb]
        · cases h
  · cases h

theorem eDelete_sound (hr : Rel P N ρ σ w) {t : TypeId} {argTypes : Array TypeId} {ty : TypeId} (ht : argTypes[0]? = some t) {m m' key key' : Value} {r : ORes} (h : eDelete P σ t m key = some r) (hm : VRel ρ m m') (hk : VRel ρ key key') :
    OpRel P N ρ σ w (do pure (.value (← Builtin.delete_ argTypes ty #[m', key']))) r := by
  unfold eDelete at h
  split at h
  · rename_i kt et k hmt
    have hu := mapTypes_spec hmt
    cases hm with
    | map _ p hp =>
      split at h
      · rename_i es clock hok hmap
        obtain ⟨hpl, hck⟩ := keyOk_sound hok
        obtain rfl := plainV_eq hk hpl
        obtain ⟨hg, es', hb, hes⟩ := aMap_sound hr hmap hp
        have hn := aMap_free hmap
        have hgm := run_getMap (P := P) hb
        split at h
        · cases h
        · rename_i hfind
          cases h
          obtain ⟨r', h1, h2⟩ := findKey_sound hok hk w hes hfind
          obtain rfl := found_none h2
          have hput := putMap_sound (es1 := es) (c1 := clock) (es1' := es') hr hp hg hb hes hn
          refine ⟨.value (.tuple #[]), .tuple #[], _, ρ, ?_, .inl rfl, Grew.same rfl, undef_rel ρ, hput.1, hput.2⟩
          unfold Builtin.delete_
          simp only [ht, List.getElem?_toArray, List.getElem?_cons_zero, List.getElem?_cons_succ, Sem.run_bind, run_underlying hu, Result.andThen_ok, hgm, hck, h1, run_setMap hb, Sem.run_pure]
        · rename_i i e hfind
          cases h
          obtain ⟨r', h1, h2⟩ := findKey_sound hok hk w hes hfind
          obtain ⟨e', rfl, g1, g2, g3⟩ := found_some h2
          have hput := putMap_sound (es1 := dropE es i) (c1 := clock) (es1' := es'.eraseIdxIfInBounds i) hr hp hg hb (by
            have : (es'.eraseIdxIfInBounds i).toList = es'.toList.eraseIdx i := by
              obtain ⟨l⟩ := es'
              simp
            rw [this]
            exact dropE_rel hes i) hn
          refine ⟨.value (.tuple #[]), .tuple #[], _, ρ, ?_, .inl rfl, Grew.same rfl, undef_rel ρ, hput.1, hput.2⟩
          unfold Builtin.delete_
          simp only [ht, List.getElem?_toArray, List.getElem?_cons_zero, List.getElem?_cons_succ, Sem.run_bind, run_underlying hu, Result.andThen_ok, hgm, hck, h1, run_setMap hb, Sem.run_pure]
      · cases h
  · cases h

theorem leftE_cons (seen : List Nat) (e : MapEntry) (l : List MapEntry) : leftE seen (e :: l) = match seen.contains e.born with
    | true => leftE seen l
    | false => e :: leftE seen l := rfl

theorem leftE_rel (seen : List Nat) : ∀ {l l' : List MapEntry}, F2 (ERel ρ) l l' → F2 (ERel ρ) (leftE seen l) (l'.filter fun e => !seen.contains e.born) := by
  intro l l' h
  induction h with
  | nil => exact .nil
  | cons hx ht ih =>
    rename_i x x' l l'
    rw [leftE_cons, List.filter_cons, hx.born]
    cases hc : seen.contains x.born with
    | true => simpa using ih
    | false => simpa using F2.cons hx ih

theorem anyOld_sound {last : Nat} : ∀ {l l' : List MapEntry}, F2 (ERel ρ) l l' → anyOld last l = true → l'.all (fun e => decide (e.born ≥ last)) = false := by
  intro l l' h
  induction h with
  | nil => intro h; cases h
  | cons hx ht ih =>
    rename_i x x' l l'
    intro h
    change @Bool.rec (fun _ => Bool) (anyOld last l) true (Nat.blt x.born last) = true at h
    rw [List.all_cons]
    cases hb : Nat.blt x.born last with
    | true =>
      have : x.born < last := Nat.le_of_ble_eq_true hb
      have h2 : ¬ (x'.born ≥ last) := by rw [hx.born]; omega
      simp [h2]
    | false =>
      rw [hb] at h
      rw [ih h]
      simp

end
end Go.Ke
