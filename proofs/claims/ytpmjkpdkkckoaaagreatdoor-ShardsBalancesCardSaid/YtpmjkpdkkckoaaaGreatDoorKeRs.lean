/- The abstract run is right: the library, a call that has been run elsewhere. No condition. -/
import Derived.Test.YtpmjkpdkkckoaaaGreatDoorKeP
import Derived.Lib.Bytealg
import Derived.Lib.MakeNoZero
import Derived.Lib.ItoaNum
import Derived.Lib.AppendIntMem
import Derived.Shelf.Strings.Fields
namespace Go.Ke
open Go.RowKit (Below)

/-- A function without a body, by the model's entry. -/
def IsExtern (P : Program) (f : FuncId) (e : Array Value → Sem Value) : Prop :=
  ∃ fn, P.funcs[f]? = some fn ∧ (fn.name == "runtime.NumGoroutine") = false ∧ fn.body.isNone = true ∧ Extern.findNext fn = none ∧ Extern.find fn = some e

def hasBody (P : Program) (f : FuncId) : Bool := match P.funcs[f]? with
  | some fn => fn.body.isSome
  | none => false

section
variable {P : Program} {N : Nat} {J : World → Prop}

theorem callSem_extern {f : FuncId} {e : Array Value → Sem Value} (h : IsExtern P f e) {args : Array Value} {w w' : World} {v : Value} (hr : (e args).run P w = .ok v w') {R : Value → World → Prop} (hR : R v w') : CallSem P f args w R := by
  obtain ⟨fn, h1, h2, h3, h4, h5⟩ := h
  intro o a K Q hK
  rw [run_callFunc_extern h1 h2 h3 h4 h5, hr]
  exact hK v w' hR

theorem callSem_of (hng : Named P) {f : FuncId} {args : Array Value} {w : World} {R : Value → World → Prop} (hb : hasBody P f = true)
    (h : Calls P f args w fun e w' => ∃ v', e = .returned v' ∧ R v' w') : CallSem P f args w R := by
  intro o a K Q hK
  unfold hasBody at hb
  split at hb
  · rename_i fn hf
    cases hbd : fn.body with
    | none => rw [hbd] at hb; cases hb
    | some c =>
      rw [run_enter hng hf hbd, Oper.upon_enter]
      refine Calls.mono h fun e w' he => ?_
      obtain ⟨v', rfl, g⟩ := he
      exact hK v' w' g
  · cases hb

def namedB (p : Program) : Bool := p.funcs.toList.all fun fn => fn.body.isNone || fn.name != "runtime.NumGoroutine"

theorem named_of {p : Program} (h : namedB p = true) : Named p := by
  intro f fn c hf hb
  have := List.all_eq_true.mp h fn (by rw [Array.mem_toList_iff]; exact Array.mem_of_getElem? hf)
  rw [hb] at this
  simpa using this

/-- The numbers of the functions, and of the type of a byte. -/
structure LibNums where
  noEscape : FuncId
  makeNoZero : FuncId
  countString : FuncId
  indexByteString : FuncId
  itoa : FuncId
  fields : FuncId
  u8 : TypeId
  str : TypeId

/-- A number's digits, 'f' of them at most. -/
noncomputable def digs (f : Nat) : Nat → List UInt8 := @Nat.rec (fun _ => Nat → List UInt8) (fun _ => []) (fun _ ih u => match Nat.blt u 10 with
  | true => [UInt8.ofNat (48 + u)]
  | false => ih (u / 10) ++ [UInt8.ofNat (48 + u % 10)]) f

theorem digs_succ (f u : Nat) : digs (f + 1) u = match Nat.blt u 10 with
  | true => [UInt8.ofNat (48 + u)]
  | false => digs f (u / 10) ++ [UInt8.ofNat (48 + u % 10)] := rfl

theorem digs_eq : ∀ (f u : Nat), u < 10 ^ (f + 1) → digs (f + 1) u = Lib.decDigits u := by
  intro f
  induction f with
  | zero =>
    intro u hu
    have hu : u < 10 := by simpa using hu
    have hb : Nat.blt u 10 = true := Nat.ble_eq_true_of_le hu
    rw [digs_succ, hb, Lib.decDigits, dif_pos hu]
  | succ f ih =>
    intro u hu
    rw [digs_succ, Lib.decDigits]
    by_cases h1 : u < 10
    · have hb : Nat.blt u 10 = true := Nat.ble_eq_true_of_le h1
      rw [dif_pos h1, hb]
    · have hb : Nat.blt u 10 = false := by
        cases hb : Nat.blt u 10 with
        | false => rfl
        | true => exact absurd (Nat.le_of_ble_eq_true hb) h1
      rw [dif_neg h1, hb]
      rw [← ih (u / 10) (by
        have : u < 10 * 10 ^ (f + 1) := by rw [Nat.pow_succ, Nat.mul_comm] at hu; exact hu
        omega)]

noncomputable def itoaL (n : Int) : List UInt8 := match n with
  | .ofNat u => digs 20 u
  | .negSucc m => 45 :: digs 20 (Nat.succ m)

theorem itoaL_eq {n : Int} (h0 : -9223372036854775808 ≤ n) (h1 : n ≤ 9223372036854775807) : itoaL n = Lib.itoa n := by
  unfold itoaL Lib.itoa
  cases n with
  | ofNat u =>
    have hn : ¬ Int.ofNat u < 0 := by simp
    rw [if_neg hn]
    have : u ≤ 9223372036854775807 := by
      have h1 : (u : Int) ≤ 9223372036854775807 := h1
      omega
    exact digs_eq 19 u (by omega)
  | negSucc m =>
    rw [if_pos (Int.negSucc_lt_zero m)]
    have : m + 1 ≤ 9223372036854775808 := by omega
    show 45 :: digs 20 (m + 1) = _
    rw [digs_eq 19 (m + 1) (by omega)]
    rfl

noncomputable def libX (t : LibNums) : Summ := fun f args σ => match Nat.beq f t.noEscape with
  | true => match args with
    | [v] => some (some (v, σ))
    | _ => some none
  | false => match Nat.beq f t.makeNoZero with
    | true => match args with
      | [.int .i64 (.ofNat n)] => match Nat.ble n 281474976710656 with
        | true => some (some (.slice (some ⟨σ.next, 0, none⟩) n unk, σ.put ((Born.row [] t.u8).obj σ.next)))
        | false => some none
      | _ => some none
    | false => match Nat.beq f t.countString with
      | true => match args with
        | [.string s, .int .u8 c] => some (some (.int .i64 (Lib.countByte s.data.toList c.toNat.toUInt8), σ))
        | _ => some none
      | false => match Nat.beq f t.indexByteString with
        | true => match args with
          | [.string s, .int .u8 c] => some (some (.int .i64 (Lib.indexByte s.data.toList c.toNat.toUInt8), σ))
          | _ => some none
        | false => match Nat.beq f t.itoa with
          | true => match args with
            | [.int .i64 n] => match decide (-9223372036854775808 ≤ n) && decide (n ≤ 9223372036854775807) with
              | true => some (some (.string ⟨(itoaL n).toArray⟩, σ))
              | false => some none
            | _ => some none
          | false => match Nat.beq f t.fields with
            | true => match args with
              | [.string s] => match Nat.blt s.data.toList.length 4294967281 && s.data.toList.all (fun b => Nat.blt b.toNat 128) && Nat.blt (Lib.fields s.data.toList).length unk with
                | true => some (some (.slice (some ⟨σ.next, 0, none⟩) (Lib.fields s.data.toList).length (Lib.fields s.data.toList).length, σ.put ((Born.row ((Lib.fields s.data.toList).map fun l => Value.string ⟨l.toArray⟩) t.str).obj σ.next)))
                | false => some none
              | _ => some none
            | false => none

/-- What the functions are. -/
structure LibOK (P : Program) (J : World → Prop) (t : LibNums) : Prop where
  noEscape : IsExtern P t.noEscape Extern.AbiNoEscape.same
  makeNoZero : ∃ ps rt, IsExtern P t.makeNoZero (Extern.BytealgMakeNoZero.makeNoZero ps #[rt]) ∧ P.underlying rt = some (.slice t.u8)
  cells : P.cellsOf t.u8 = 1
  countString : IsExtern P t.countString Extern.BytealgCount.count
  indexByteString : IsExtern P t.indexByteString Extern.BytealgIndexByte.indexByte
  hasItoa : hasBody P t.itoa = true
  itoa : ∀ (n : Int), -9223372036854775808 ≤ n → n ≤ 9223372036854775807 → ∀ w, J w → Calls P t.itoa #[.int .i64 n] w fun e w' => e = .returned (.string ⟨(Lib.itoa n).toArray⟩) ∧ ∃ k os, w' = Sort.grow (w.drewN k) os
  hasFields : hasBody P t.fields = true
  fields : ∀ (s : ByteArray) (w : World), s.size < 4294967281 → (∀ (j : Nat) b, s.data.toList[j]? = some b → b.toNat < 128) → J w → Calls P t.fields #[.string s] w fun e w' =>
    e = .returned (.slice (some ⟨w.heap.size, 0, none⟩) (Lib.fields s.data.toList).length (Lib.fields s.data.toList).length) ∧ w' = w.alloc (.cells ((Lib.fields s.data.toList).map fun l => Value.string ⟨l.toArray⟩).toArray t.str)

theorem libX_ok {t : LibNums} (hng : Named P) (hL : LibOK P J t) : SummOK P N J (libX t) := by
  intro f args σ v σ' h ρ w args' hr hJ ha
  unfold libX at h
  split at h
  · rename_i hf
    have hf := Nat.eq_of_beq_eq_true hf
    subst hf
    split at h
    · rename_i x
      cases h
      cases ha with
      | cons h1 t1 =>
        cases t1
        exact callSem_extern hL.noEscape rfl ⟨ρ, .refl _ _, h1, hr, Below.refl _ _⟩
    · cases h
  · split at h
    · rename_i hf
      have hf := Nat.eq_of_beq_eq_true hf
      subst hf
      split at h
      · rename_i n
        split at h
        · rename_i hn
          cases h
          have hn := Nat.le_of_ble_eq_true hn
          cases ha with
          | cons h1 t1 =>
            cases t1
            cases h1
            obtain ⟨ps, rt, g1, g2⟩ := hL.makeNoZero
            obtain ⟨cs, k1, k2, _⟩ := Lib.run_makeNoZero (P := P) w ps rt t.u8 g2 n hn
            refine callSem_extern g1 k1 ?_
            have hb : BornRel P ρ (.row [] t.u8) (.cells cs t.u8 (0, 0)) := ⟨cs, (0, 0), rfl, Nat.zero_le _, fun i _ => by simp, fun i x hx => by cases hx⟩
            refine ⟨_, .ext hr.fresh_none rfl, ?_, new_sound hr hb rfl, push_below hr.size rfl rfl rfl rfl⟩
            refine .slice σ.next 0 n unk _ 0 cs.size (ext_self _ _ _) k2 (.inr rfl) (fun h => absurd h (Nat.lt_irrefl _)) fun _ => .inr ?_
            show 0 + cs.size * P.cellsOf t.u8 ≤ cs.size
            rw [hL.cells]
            omega
        · cases h
      · cases h
    · split at h
      · rename_i hf
        have hf := Nat.eq_of_beq_eq_true hf
        subst hf
        split at h
        · rename_i s c
          cases h
          cases ha with
          | cons h1 t1 => cases t1 with
            | cons h2 t2 =>
              cases t2
              cases h1
              cases h2
              exact callSem_extern hL.countString (Lib.run_countString s c w) ⟨ρ, .refl _ _, .int _ _, hr, Below.refl _ _⟩
        · cases h
      · split at h
        · rename_i hf
          have hf := Nat.eq_of_beq_eq_true hf
          subst hf
          split at h
          · rename_i s c
            cases h
            cases ha with
            | cons h1 t1 => cases t1 with
              | cons h2 t2 =>
                cases t2
                cases h1
                cases h2
                exact callSem_extern hL.indexByteString (Lib.run_indexByteString s c w) ⟨ρ, .refl _ _, .int _ _, hr, Below.refl _ _⟩
          · cases h
        · split at h
          · rename_i hf
            have hf := Nat.eq_of_beq_eq_true hf
            subst hf
            split at h
            · rename_i n
              split at h
              · rename_i hi
                cases h
                rw [Bool.and_eq_true] at hi
                have h0 := of_decide_eq_true hi.1
                have h1 := of_decide_eq_true hi.2
                cases ha with
                | cons g1 t1 =>
                  cases t1
                  cases g1
                  refine callSem_of hng hL.hasItoa ((hL.itoa n h0 h1 w hJ).mono ?_)
                  rintro e w' ⟨rfl, k, os, rfl⟩
                  rw [itoaL_eq h0 h1]
                  have hs : ∀ i, i < w.heap.size → (Sort.grow (w.drewN k) os).heap[i]? = w.heap[i]? := fun i hi => by
                    show (w.heap ++ os)[i]? = _
                    rw [Array.getElem?_append_left hi]
                  have hz : w.heap.size ≤ (Sort.grow (w.drewN k) os).heap.size := by
                    show _ ≤ (w.heap ++ os).size
                    simp
                  have hN := hr.size
                  exact ⟨_, rfl, ρ, .refl _ _, .str _, grown_rel hr hz hs, ⟨rfl, rfl, rfl, hz, fun i hi => hs i (by omega)⟩⟩
              · cases h
            · cases h
          · split at h
            · rename_i hf
              have hf := Nat.eq_of_beq_eq_true hf
              subst hf
              split at h
              · rename_i s
                split at h
                · rename_i hcond
                  simp only [Bool.and_eq_true] at hcond
                  obtain ⟨⟨h1, h2⟩, h3⟩ := hcond
                  have h1 := Nat.le_of_ble_eq_true h1
                  have h3 : (Lib.fields s.data.toList).length < unk := Nat.le_of_ble_eq_true h3
                  cases h
                  cases ha with
                  | cons g1 t1 =>
                    cases t1
                    cases g1
                    have hsz : s.size < 4294967281 := by
                      have : s.size = s.data.toList.length := (Array.length_toList (xs := s.data)).symm
                      omega
                    refine callSem_of hng hL.hasFields ((hL.fields s w hsz (fun j b hb => ?_) hJ).mono ?_)
                    · have := List.all_eq_true.mp h2 b (List.mem_of_getElem? hb)
                      exact Nat.le_of_ble_eq_true this
                    · rintro e w' ⟨rfl, rfl⟩
                      have hb : BornRel P ρ (.row ((Lib.fields s.data.toList).map fun l => Value.string ⟨l.toArray⟩) t.str) (.cells ((Lib.fields s.data.toList).map fun l => Value.string ⟨l.toArray⟩).toArray t.str (0, 0)) := born_row t.str (by
                        show LRel ρ _ ((Lib.fields s.data.toList).map fun l => Value.string ⟨l.toArray⟩)
                        generalize Lib.fields s.data.toList = l
                        induction l with
                        | nil => exact .nil
                        | cons x l ih => exact .cons (.str _) ih)
                      refine ⟨_, rfl, _, .ext hr.fresh_none rfl, ?_, new_sound hr hb rfl, push_below hr.size rfl rfl rfl rfl⟩
                      exact mk_slice σ _ rfl (Nat.le_refl _) (fun _ => rfl) fun hu => absurd hu (by omega)
                · cases h
              · cases h
            · cases h

end
end Go.Ke

namespace Go.Ke
open Go.RowKit (Below)

/-! ### A state that says less -/

/-- The block says the same, or less. -/
def ObLe : AObj → AObj → Prop
  | .row c l e k p, .row c' l' e' k' p' => l = l' ∧ e = e' ∧ k = k' ∧ p = p' ∧ ∀ i v, i < l → c.get i = some v → c'.get i = some v
  | a, b => a = b

theorem ObLe.clsOf {a b : AObj} (h : ObLe a b) (k : Nat) : a.clsOf k = b.clsOf k := by
  cases a <;> cases b <;> first | (cases h; done) | skip
  all_goals first
    | exact h.2.2.1
    | (cases h; rfl)

theorem ObLe.posOf {a b : AObj} (h : ObLe a b) : a.posOf = b.posOf := by
  cases a <;> cases b <;> first | (cases h; done) | skip
  all_goals first
    | exact h.2.2.2.1
    | (cases h; rfl)

/-- The state 's' says less than 'σ'. -/
structure Less (s σ : St) : Prop where
  next : s.next = σ.next
  G : s.G = 0
  obj : ∀ k ob, s.heap.get k = some ob → ∃ ob', σ.heap.get k = some ob' ∧ ObLe ob ob' ∧ s.cls.get (ob.clsOf k) = σ.cls.get (ob.clsOf k)
  cls : ∀ c x, s.cls.get c = some x → σ.cls.get c = some x

section
variable {P : Program} {N : Nat} {J : World → Prop} {ρ : Loc} {σ s : St} {w : World}

theorem Rel.less (hr : Rel P N ρ σ w) (h : Less s σ) : Rel P N ρ s w := by
  refine ⟨fun k p hk => ?_, fun k ob ho => ?_, fun c x hx => ?_, fun k p ob hk ho => ?_, fun k k' p p' o1 o2 hk hk' hbb ho ho' => ?_, fun k k' o1 o2 ho ho' hc hn => ?_, fun g hg => ?_, hr.size⟩
  · obtain ⟨h1, h2, h3⟩ := hr.dom k p hk
    refine ⟨h1, by rw [h.next]; exact h2, fun ob ho => ?_⟩
    obtain ⟨ob', g1, g2, g3⟩ := h.obj k ob ho
    refine (h3 ob' g1).imp id fun hm i => ?_
    obtain ⟨x, hx, hf⟩ := hm i
    exact ⟨x, by rw [g3, g2.clsOf]; exact hx, hf⟩
  · obtain ⟨ob', g1, g2, _⟩ := h.obj k ob ho
    rw [h.next, g2.clsOf]
    exact hr.above k ob' g1
  · rw [h.next]
    exact hr.clsAbove c x (h.cls c x hx)
  · obtain ⟨ob', g1, g2, g3⟩ := h.obj k ob ho
    have hO := hr.obj k p ob' hk g1
    cases ob with
    | row cells len elem cls pos =>
      cases ob' with
      | row cells' len' elem' cls' pos' =>
        obtain ⟨rfl, rfl, rfl, rfl, g4⟩ := g2
        obtain ⟨hsz, c, fz, hrow⟩ := hO
        have g3' : s.cls.get cls = σ.cls.get cls := g3
        refine ⟨hsz, c, fz, ⟨hrow.at', hrow.size, hrow.within, fun hv => ?_, fun i hi hn => hrow.free i hi fun hm => hn ?_, fun x hx e hm => hrow.ends x (by rw [← g3']; exact hx) e hm, hrow.base⟩⟩
        · obtain ⟨k1, k2⟩ := hrow.holds (by unfold St.valid at hv ⊢; rw [← g3']; exact hv)
          exact ⟨k1, fun i v hi hc => k2 i v hi (g4 i v hi hc)⟩
        · obtain ⟨x, hx, hf⟩ := hm
          exact ⟨x, by rw [g3']; exact hx, hf⟩
      | _ => cases g2
    | map es clock =>
      cases ob' <;> first | (cases g2; done) | skip
      all_goals (cases g2; exact hO)
    | mapIter m since seen stepped =>
      cases ob' <;> first | (cases g2; done) | skip
      all_goals (cases g2; exact hO)
    | strIter st pos =>
      cases ob' <;> first | (cases g2; done) | skip
      all_goals (cases g2; exact hO)
    | bag es =>
      cases ob' <;> first | (cases g2; done) | skip
      all_goals (cases g2; exact hO)
  · obtain ⟨b1, g1, g2, _⟩ := h.obj k o1 ho
    obtain ⟨b2, g1', g2', _⟩ := h.obj k' o2 ho'
    rw [g2.clsOf, g2'.clsOf, g2.posOf, g2'.posOf]
    exact hr.sep k k' p p' b1 b2 hk hk' hbb g1 g1'
  · obtain ⟨b1, g1, g2, g3⟩ := h.obj k o1 ho
    obtain ⟨b2, g1', g2', _⟩ := h.obj k' o2 ho'
    exact hr.lone k k' b1 b2 g1 g1' (by rw [← g2.clsOf, ← g2'.clsOf]; exact hc) (by rw [← g2.clsOf, ← g3]; exact hn)
  · rw [h.G] at hg
    exact absurd hg (Nat.not_lt_zero g)

end
/-! ### States as they are written -/

/-- A block as it is written. -/
inductive SOb where
  | row (cells : List Value) (elem : TypeId) (cls pos : Nat)
  | map (es : List MapEntry) (clock : Nat)
  | bag (es : List (Value × Value))

noncomputable def SOb.ob : SOb → AObj
  | .row l e c p => .row (fillTr l 0 .nil) l.length e c p
  | .map es n => .map es n
  | .bag es => .bag es

structure Shot where
  heap : List (Nat × SOb)
  cls : List (Nat × ACls)
  next : Nat

noncomputable def heapTr (l : List (Nat × SOb)) : Tr AObj := @List.rec (Nat × SOb) (fun _ => Tr AObj) .nil (fun x _ ih => ih.set x.2.ob x.1) l
noncomputable def clsTr (l : List (Nat × ACls)) : Tr ACls := @List.rec (Nat × ACls) (fun _ => Tr ACls) .nil (fun x _ ih => ih.set x.2 x.1) l

noncomputable def Shot.st (s : Shot) : St := { heap := heapTr s.heap, next := s.next, cls := clsTr s.cls, G := 0, dfr := [] }

theorem heapTr_get : ∀ {l : List (Nat × SOb)} {k : Nat} {ob : AObj}, (heapTr l).get k = some ob → ∃ x, (k, x) ∈ l ∧ ob = x.ob := by
  intro l
  induction l with
  | nil => intro k ob h; rw [show heapTr [] = .nil from rfl, Tr.get_nil] at h; cases h
  | cons x l ih =>
    intro k ob h
    rw [show heapTr (x :: l) = (heapTr l).set x.2.ob x.1 from rfl, Tr.get_set] at h
    by_cases e : k = x.1
    · rw [if_pos e] at h
      cases h
      exact ⟨x.2, by rw [e]; exact List.mem_cons_self .., rfl⟩
    · rw [if_neg e] at h
      obtain ⟨y, h1, h2⟩ := ih h
      exact ⟨y, List.mem_cons_of_mem _ h1, h2⟩

theorem clsTr_get : ∀ {l : List (Nat × ACls)} {k : Nat} {x : ACls}, (clsTr l).get k = some x → (k, x) ∈ l := by
  intro l
  induction l with
  | nil => intro k x h; rw [show clsTr [] = .nil from rfl, Tr.get_nil] at h; cases h
  | cons y l ih =>
    intro k x h
    rw [show clsTr (y :: l) = (clsTr l).set y.2 y.1 from rfl, Tr.get_set] at h
    by_cases e : k = y.1
    · rw [if_pos e] at h
      cases h
      rw [e]
      exact List.mem_cons_self ..
    · rw [if_neg e] at h
      exact List.mem_cons_of_mem _ (ih h)

/-! ### Looked at by the kernel -/

noncomputable def cellsB (l : List Value) (t : Tr Value) : Nat → Bool := @List.rec Value (fun _ => Nat → Bool) (fun _ => true) (fun x _ ih i => match t.get i with
  | some v => @Bool.rec (fun _ => Bool) false (ih (Nat.succ i)) (veq x v)
  | none => false) l

theorem cellsB_get {t : Tr Value} : ∀ {l : List Value} {i : Nat}, cellsB l t i = true → ∀ j v, l[j]? = some v → t.get (i + j) = some v := by
  intro l
  induction l with
  | nil => intro i _ j v h; simp at h
  | cons x l ih =>
    intro i h j v hj
    have h' : (match t.get i with | some v => @Bool.rec (fun _ => Bool) false (cellsB l t (i + 1)) (veq x v) | none => false) = true := h
    split at h'
    · rename_i u hu
      cases hv : veq x u with
      | false => rw [hv] at h'; cases h'
      | true =>
        rw [hv] at h'
        cases j with
        | zero =>
          simp at hj
          rw [Nat.add_zero, hu, ← hj, veq_eq hv]
        | succ j =>
          have := ih h' j v (by simpa using hj)
          rwa [show i + (j + 1) = i + 1 + j by omega]
    · cases h'

noncomputable def entsB (l : List MapEntry) : List MapEntry → Bool := @List.rec MapEntry (fun _ => List MapEntry → Bool) (fun l' => match l' with
  | [] => true
  | _ :: _ => false) (fun x _ ih l' => match l' with
  | [] => false
  | y :: r => @Bool.rec (fun _ => Bool) false (ih r) (veq x.key y.key && (veq x.val y.val && Nat.beq x.born y.born))) l

theorem entsB_eq : ∀ {l l' : List MapEntry}, entsB l l' = true → l = l' := by
  intro l
  induction l with
  | nil =>
    intro l' h
    cases l' with
    | nil => rfl
    | cons _ _ => cases h
  | cons x l ih =>
    intro l' h
    cases l' with
    | nil => cases h
    | cons y r =>
      have h' : @Bool.rec (fun _ => Bool) false (entsB l r) (veq x.key y.key && (veq x.val y.val && Nat.beq x.born y.born)) = true := h
      cases hb : (veq x.key y.key && (veq x.val y.val && Nat.beq x.born y.born)) with
      | false => rw [hb] at h'; cases h'
      | true =>
        rw [hb] at h'
        simp only [Bool.and_eq_true] at hb
        have e1 := veq_eq hb.1
        have e2 := veq_eq hb.2.1
        have e3 := Nat.eq_of_beq_eq_true hb.2.2
        rw [ih h']
        cases x
        cases y
        simp only at e1 e2 e3
        rw [e1, e2, e3]

noncomputable def pairsB (l : List (Value × Value)) : List (Value × Value) → Bool := @List.rec (Value × Value) (fun _ => List (Value × Value) → Bool) (fun l' => match l' with
  | [] => true
  | _ :: _ => false) (fun x _ ih l' => match l' with
  | [] => false
  | y :: r => @Bool.rec (fun _ => Bool) false (ih r) (veq x.1 y.1 && veq x.2 y.2)) l

theorem pairsB_eq : ∀ {l l' : List (Value × Value)}, pairsB l l' = true → l = l' := by
  intro l
  induction l with
  | nil =>
    intro l' h
    cases l' with
    | nil => rfl
    | cons _ _ => cases h
  | cons x l ih =>
    intro l' h
    cases l' with
    | nil => cases h
    | cons y r =>
      have h' : @Bool.rec (fun _ => Bool) false (pairsB l r) (veq x.1 y.1 && veq x.2 y.2) = true := h
      cases hb : (veq x.1 y.1 && veq x.2 y.2) with
      | false => rw [hb] at h'; cases h'
      | true =>
        rw [hb] at h'
        simp only [Bool.and_eq_true] at hb
        rw [ih h', Prod.ext (veq_eq hb.1) (veq_eq hb.2)]

noncomputable def natsB (l : List (Nat × Nat)) : List (Nat × Nat) → Bool := @List.rec (Nat × Nat) (fun _ => List (Nat × Nat) → Bool) (fun l' => match l' with
  | [] => true
  | _ :: _ => false) (fun x _ ih l' => match l' with
  | [] => false
  | y :: r => @Bool.rec (fun _ => Bool) false (ih r) (Nat.beq x.1 y.1 && Nat.beq x.2 y.2)) l

theorem natsB_eq : ∀ {l l' : List (Nat × Nat)}, natsB l l' = true → l = l' := by
  intro l
  induction l with
  | nil =>
    intro l' h
    cases l' with
    | nil => rfl
    | cons _ _ => cases h
  | cons x l ih =>
    intro l' h
    cases l' with
    | nil => cases h
    | cons y r =>
      have h' : @Bool.rec (fun _ => Bool) false (natsB l r) (Nat.beq x.1 y.1 && Nat.beq x.2 y.2) = true := h
      cases hb : (Nat.beq x.1 y.1 && Nat.beq x.2 y.2) with
      | false => rw [hb] at h'; cases h'
      | true =>
        rw [hb] at h'
        simp only [Bool.and_eq_true] at hb
        rw [ih h', Prod.ext (Nat.eq_of_beq_eq_true hb.1) (Nat.eq_of_beq_eq_true hb.2)]

noncomputable def sameB (a b : Bool) : Bool := match a with
  | true => b
  | false => !b
theorem sameB_eq {a b : Bool} (h : sameB a b = true) : a = b := by cases a <;> cases b <;> first | rfl | cases h

noncomputable def clsB (x y : ACls) : Bool := natsB x.stack y.stack && (Nat.beq x.lo y.lo && (Nat.beq x.hi y.hi && (sameB x.tail y.tail && sameB x.ro y.ro)))
theorem clsB_eq {x y : ACls} (h : clsB x y = true) : x = y := by
  unfold clsB at h
  simp only [Bool.and_eq_true] at h
  have e1 := natsB_eq h.1
  have e2 := Nat.eq_of_beq_eq_true h.2.1
  have e3 := Nat.eq_of_beq_eq_true h.2.2.1
  have e4 := sameB_eq h.2.2.2.1
  have e5 := sameB_eq h.2.2.2.2
  cases x
  cases y
  simp only at e1 e2 e3 e4 e5
  rw [e1, e2, e3, e4, e5]

noncomputable def clsO : Option ACls → Option ACls → Bool
  | none, none => true
  | some x, some y => clsB x y
  | _, _ => false
theorem clsO_eq {x y : Option ACls} (h : clsO x y = true) : x = y := by
  cases x <;> cases y <;> first | rfl | (cases h; done) | exact congrArg some (clsB_eq h)

noncomputable def obB : SOb → Option AObj → Bool
  | .row l e c p, some (.row t n e' c' p') => Nat.beq l.length n && (Nat.beq e e' && (Nat.beq c c' && (Nat.beq p p' && cellsB l t 0)))
  | .map es n, some (.map es' n') => Nat.beq n n' && entsB es es'
  | .bag es, some (.bag es') => pairsB es es'
  | _, _ => false

theorem obB_le {x : SOb} {o : Option AObj} (h : obB x o = true) : ∃ ob', o = some ob' ∧ ObLe x.ob ob' := by
  cases x with
  | row l e c p =>
    cases o with
    | none => cases h
    | some ob =>
      cases ob with
      | row t n e' c' p' =>
        have h' : (Nat.beq l.length n && (Nat.beq e e' && (Nat.beq c c' && (Nat.beq p p' && cellsB l t 0)))) = true := h
        simp only [Bool.and_eq_true] at h'
        obtain ⟨h1, h2, h3, h4, h5⟩ := h'
        refine ⟨_, rfl, Nat.eq_of_beq_eq_true h1, Nat.eq_of_beq_eq_true h2, Nat.eq_of_beq_eq_true h3, Nat.eq_of_beq_eq_true h4, fun i v hi hv => ?_⟩
        rw [get_fillTr, if_pos ⟨Nat.zero_le _, by omega⟩, Nat.sub_zero] at hv
        have := cellsB_get h5 i v hv
        rwa [Nat.zero_add] at this
      | _ => cases h
  | map es n =>
    cases o with
    | none => cases h
    | some ob =>
      cases ob with
      | map es' n' =>
        have h' : (Nat.beq n n' && entsB es es') = true := h
        simp only [Bool.and_eq_true] at h'
        exact ⟨_, rfl, by show AObj.map es n = AObj.map es' n'; rw [Nat.eq_of_beq_eq_true h'.1, entsB_eq h'.2]⟩
      | _ => cases h
  | bag es =>
    cases o with
    | none => cases h
    | some ob =>
      cases ob with
      | bag es' => exact ⟨_, rfl, by show AObj.bag es = AObj.bag es'; rw [pairsB_eq (show pairsB es es' = true from h)]⟩
      | _ => cases h

noncomputable def heapB (ct : Tr ACls) (σ : St) (l : List (Nat × SOb)) : Bool := @List.rec (Nat × SOb) (fun _ => Bool) true (fun x _ ih =>
  @Bool.rec (fun _ => Bool) false ih (obB x.2 (σ.heap.get x.1) && clsO (ct.get (x.2.ob.clsOf x.1)) (σ.cls.get (x.2.ob.clsOf x.1)))) l

theorem heapB_mem {ct : Tr ACls} {σ : St} : ∀ {l : List (Nat × SOb)}, heapB ct σ l = true → ∀ k x, (k, x) ∈ l → obB x (σ.heap.get k) = true ∧ ct.get (x.ob.clsOf k) = σ.cls.get (x.ob.clsOf k) := by
  intro l
  induction l with
  | nil => intro _ k x h; cases h
  | cons y l ih =>
    intro h k x hm
    have h' : @Bool.rec (fun _ => Bool) false (heapB ct σ l) (obB y.2 (σ.heap.get y.1) && clsO (ct.get (y.2.ob.clsOf y.1)) (σ.cls.get (y.2.ob.clsOf y.1))) = true := h
    cases hb : (obB y.2 (σ.heap.get y.1) && clsO (ct.get (y.2.ob.clsOf y.1)) (σ.cls.get (y.2.ob.clsOf y.1))) with
    | false => rw [hb] at h'; cases h'
    | true =>
      rw [hb] at h'
      rcases List.mem_cons.1 hm with e | hm
      · cases e
        simp only [Bool.and_eq_true] at hb
        exact ⟨hb.1, clsO_eq hb.2⟩
      · exact ih h' k x hm

noncomputable def clssB (σ : St) (l : List (Nat × ACls)) : Bool := @List.rec (Nat × ACls) (fun _ => Bool) true (fun x _ ih => @Bool.rec (fun _ => Bool) false ih (clsO (some x.2) (σ.cls.get x.1))) l

theorem clssB_mem {σ : St} : ∀ {l : List (Nat × ACls)}, clssB σ l = true → ∀ k x, (k, x) ∈ l → σ.cls.get k = some x := by
  intro l
  induction l with
  | nil => intro _ k x h; cases h
  | cons y l ih =>
    intro h k x hm
    have h' : @Bool.rec (fun _ => Bool) false (clssB σ l) (clsO (some y.2) (σ.cls.get y.1)) = true := h
    cases hb : clsO (some y.2) (σ.cls.get y.1) with
    | false => rw [hb] at h'; cases h'
    | true =>
      rw [hb] at h'
      rcases List.mem_cons.1 hm with e | hm
      · cases e
        exact (clsO_eq hb).symm
      · exact ih h' k x hm

/-- Does the written state say no more than the state? -/
noncomputable def lessB (s : Shot) (σ : St) : Bool := Nat.beq s.next σ.next && (clssB σ s.cls && heapB (clsTr s.cls) σ s.heap)

theorem lessB_less {s : Shot} {σ : St} (h : lessB s σ = true) : Less s.st σ := by
  unfold lessB at h
  simp only [Bool.and_eq_true] at h
  obtain ⟨h1, h2, h3⟩ := h
  refine ⟨Nat.eq_of_beq_eq_true h1, rfl, fun k ob ho => ?_, fun c x hx => clssB_mem h2 c x (clsTr_get hx)⟩
  obtain ⟨x, g1, rfl⟩ := heapTr_get ho
  obtain ⟨g2, g3⟩ := heapB_mem h3 k x g1
  obtain ⟨ob', g4, g5⟩ := obB_le g2
  exact ⟨ob', g4, g5, g3⟩

/-! ### Calls that have been run elsewhere -/

/-- A call as it is written: the state ahead, what it hands back, the state behind. -/
structure Chunk where
  f : FuncId
  args : List Value
  s0 : Shot
  v : Value
  s1 : Shot

noncomputable def chunkX (l : List Chunk) : Summ := fun f args σ => @List.rec Chunk (fun _ => Option (Option (Value × St))) none (fun c _ ih => match Nat.beq f c.f with
  | true => match veqLf (veqS 6) c.args args && lessB c.s0 σ with
    | true => some (some (c.v, c.s1.st))
    | false => ih
  | false => ih) l

noncomputable def orX (X Y : Summ) : Summ := fun f args σ => match X f args σ with
  | some r => some r
  | none => Y f args σ

def ChunkOK (P : Program) (N : Nat) (J : World → Prop) (c : Chunk) : Prop := CallOK P N J c.f c.args c.s0.st c.v c.s1.st

section
variable {P : Program} {N : Nat} {J : World → Prop} {ρ : Loc} {σ s : St} {w : World} {X Y : Summ} {XD : FuncId → List Value → Bool}

theorem CallSem.weak {f : FuncId} {args : Array Value} {R R' : Value → World → Prop} (h : CallSem P f args w R) (hR : ∀ v w', R v w' → R' v w') : CallSem P f args w R' := fun o a K Q hk => h o a K Q fun v w' hr => hk v w' (hR v w' hr)

theorem orX_ok (hX : SummOK P N J X) (hY : SummOK P N J Y) : SummOK P N J (orX X Y) := fun f args σ v σ' h => by
  unfold orX at h
  split at h
  · rename_i r hr
    cases h
    exact hX f args σ v σ' hr
  · exact hY f args σ v σ' h

theorem chunkX_ok {l : List Chunk} (hl : ∀ c ∈ l, ChunkOK P N J c) : SummOK P N J (chunkX l) := by
  induction l with
  | nil => intro f args σ v σ' h; cases h
  | cons c l ih =>
    intro f args σ v σ' h
    have ih' := ih fun c hc => hl c (List.mem_cons_of_mem _ hc)
    have h' : (match Nat.beq f c.f with
      | true => match veqLf (veqS 6) c.args args && lessB c.s0 σ with
        | true => some (some (c.v, c.s1.st))
        | false => chunkX l f args σ
      | false => chunkX l f args σ) = some (some (v, σ')) := h
    split at h'
    · rename_i hf
      split at h'
      · rename_i hb
        cases h'
        simp only [Bool.and_eq_true] at hb
        obtain rfl := Nat.eq_of_beq_eq_true hf
        have ea := veqLf_eq (veqS_eq 6) hb.1
        subst ea
        have hls := lessB_less hb.2
        intro ρ w args' hr hJ ha
        have hc := hl c (List.mem_cons_self ..) ρ w args' (hr.less hls) hJ ha
        refine CallSem.weak hc fun v' w' h => ?_
        obtain ⟨ρ', g1, g2, g3, g4⟩ := h
        exact ⟨ρ', ⟨g1.le, fun j hj => g1.old j (by rw [hls.next]; exact hj), by rw [← hls.next]; exact g1.next⟩, g2, g3, g4⟩
      · exact ih' f args σ v σ' h'
    · exact ih' f args σ v σ' h'

variable [Quiet] [QuietOK P]

noncomputable def chunkRun (P : Program) [Quiet] (X : Summ) (XD : FuncId → List Value → Bool) (c : Chunk) : Bool := match callRun P X XD (codeRun P X XD 1000000000000) c.f c.args c.s0.st with
  | some (v, σ) => veq c.v v && lessB c.s1 σ
  | none => false

theorem chunk_ok (hst : Stable N J) (hm : P.follows .mixedOrders = true) (hng : Named P) (hXD : DeferOK P XD) (hX : SummOK P N J X) {c : Chunk} (h : chunkRun P X XD c = true) : ChunkOK P N J c := by
  unfold chunkRun at h
  split at h
  · rename_i v σ hr
    simp only [Bool.and_eq_true] at h
    have ev := veq_eq h.1
    have hls := lessB_less h.2
    have hc := callRun_sound hst hng hXD (code_ok hst hm hng hXD hX 1000000000000) hX c.f c.args c.s0.st v σ hr
    intro ρ w args' hrel hJ ha
    refine CallSem.weak (hc ρ w args' hrel hJ ha) fun v' w' h => ?_
    obtain ⟨ρ', g1, g2, g3, g4⟩ := h
    exact ⟨ρ', ⟨g1.le, g1.old, by rw [hls.next]; exact g1.next⟩, by rw [ev]; exact g2, g3.less hls, g4⟩
  · cases h

end
end Go.Ke
