/- Functions of the library that the abstract run does not walk: those without a body, by the model's entries; small numerals. The conditions: what each function is. -/
import Derived.Test.YtaikipdjknhjdaaGreatDoorKeP
import Derived.Lib.Bytealg
import Derived.Lib.MakeNoZero
import Derived.Lib.ItoaNum
import Derived.Lib.AppendIntMem
import Derived.Shelf.Strings.Fields
namespace Go.Ke
open Go.RowKit (Below)

/-- A function without a body, by the model's entry. -/
def IsExtern (P : Program) (f : FuncId) (e : Array Value → Sem Value) : Prop :=
  ∃ fn, P.funcs[f]? = some fn ∧ (fn.name == "runtime.NumGoroutine") = false ∧ fn.body.isNone = true ∧ Extern.findNext fn = none ∧ Extern.find fn = some e

def hasBody (P : Program) (f : FuncId) : Bool := match P.funcs[f]? with
  | some fn => fn.body.isSome
  | none => false

section
variable {P : Program} {N : Nat} {J : World → Prop}

theorem callSem_extern {f : FuncId} {e : Array Value → Sem Value} (h : IsExtern P f e) {args : Array Value} {w w' : World} {v : Value} (hr : (e args).run P w = .ok v w') {R : Value → World → Prop} (hR : R v w') : CallSem P f args w R := by
  obtain ⟨fn, h1, h2, h3, h4, h5⟩ := h
  intro o a K Q hK
  rw [run_callFunc_extern h1 h2 h3 h4 h5, hr]
  exact hK v w' hR

theorem callSem_of (hng : Named P) {f : FuncId} {args : Array Value} {w : World} {R : Value → World → Prop} (hb : hasBody P f = true)
    (h : Calls P f args w fun e w' => ∃ v', e = .returned v' ∧ R v' w') : CallSem P f args w R := by
  intro o a K Q hK
  unfold hasBody at hb
  split at hb
  · rename_i fn hf
    cases hbd : fn.body with
    | none => rw [hbd] at hb; cases hb
    | some c =>
      rw [run_enter hng hf hbd, Oper.upon_enter]
      refine Calls.mono h fun e w' he => ?_
      obtain ⟨v', rfl, g⟩ := he
      exact hK v' w' g
  · cases hb

def namedB (p : Program) : Bool := p.funcs.toList.all fun fn => fn.body.isNone || fn.name != "runtime.NumGoroutine"

theorem named_of {p : Program} (h : namedB p = true) : Named p := by
  intro f fn c hf hb
  have := List.all_eq_true.mp h fn (by rw [Array.mem_toList_iff]; exact Array.mem_of_getElem? hf)
  rw [hb] at this
  simpa using this

/-- The numbers of the functions, and of the type of a byte. -/
structure LibNums where
  noEscape : FuncId
  makeNoZero : FuncId
  countString : FuncId
  indexByteString : FuncId
  itoa : FuncId
  fields : FuncId
  u8 : TypeId
  str : TypeId

/-- A number's digits, 'f' of them at most. -/
noncomputable def digs (f : Nat) : Nat → List UInt8 := @Nat.rec (fun _ => Nat → List UInt8) (fun _ => []) (fun _ ih u => match Nat.blt u 10 with
  | true => [UInt8.ofNat (48 + u)]
  | false => ih (u / 10) ++ [UInt8.ofNat (48 + u % 10)]) f

theorem digs_succ (f u : Nat) : digs (f + 1) u = match Nat.blt u 10 with
  | true => [UInt8.ofNat (48 + u)]
  | false => digs f (u / 10) ++ [UInt8.ofNat (48 + u % 10)] := rfl

theorem digs_eq : ∀ (f u : Nat), u < 10 ^ (f + 1) → digs (f + 1) u = Lib.decDigits u := by
  intro f
  induction f with
  | zero =>
    intro u hu
    have hu : u < 10 := by simpa using hu
    have hb : Nat.blt u 10 = true := Nat.ble_eq_true_of_le hu
    rw [digs_succ, hb, Lib.decDigits, dif_pos hu]
  | succ f ih =>
    intro u hu
    rw [digs_succ, Lib.decDigits]
    by_cases h1 : u < 10
    · have hb : Nat.blt u 10 = true := Nat.ble_eq_true_of_le h1
      rw [dif_pos h1, hb]
    · have hb : Nat.blt u 10 = false := by
        cases hb : Nat.blt u 10 with
        | false => rfl
        | true => exact absurd (Nat.le_of_ble_eq_true hb) h1
      rw [dif_neg h1, hb]
      rw [← ih (u / 10) (by
        have : u < 10 * 10 ^ (f + 1) := by rw [Nat.pow_succ, Nat.mul_comm] at hu; exact hu
        omega)]

noncomputable def itoaL (n : Int) : List UInt8 := match n with
  | .ofNat u => digs 20 u
  | .negSucc m => 45 :: digs 20 (Nat.succ m)

theorem itoaL_eq {n : Int} (h0 : -9223372036854775808 ≤ n) (h1 : n ≤ 9223372036854775807) : itoaL n = Lib.itoa n := by
  unfold itoaL Lib.itoa
  cases n with
  | ofNat u =>
    have hn : ¬ Int.ofNat u < 0 := by simp
    rw [if_neg hn]
    have : u ≤ 9223372036854775807 := by
      have h1 : (u : Int) ≤ 9223372036854775807 := h1
      omega
    exact digs_eq 19 u (by omega)
  | negSucc m =>
    rw [if_pos (Int.negSucc_lt_zero m)]
    have : m + 1 ≤ 9223372036854775808 := by omega
    show 45 :: digs 20 (m + 1) = _
    rw [digs_eq 19 (m + 1) (by omega)]
    rfl

noncomputable def libX (t : LibNums) : Summ := fun f args σ => match Nat.beq f t.noEscape with
  | true => match args with
    | [v] => some (some (v, σ))
    | _ => some none
  | false => match Nat.beq f t.makeNoZero with
    | true => match args with
      | [.int .i64 (.ofNat n)] => match Nat.ble n 281474976710656 with
        | true => some (some (.slice (some ⟨σ.next, 0, none⟩) n unk, σ.put ((Born.row [] t.u8).obj σ.next)))
        | false => some none
      | _ => some none
    | false => match Nat.beq f t.countString with
      | true => match args with
        | [.string s, .int .u8 c] => some (some (.int .i64 (Lib.countByte s.data.toList c.toNat.toUInt8), σ))
        | _ => some none
      | false => match Nat.beq f t.indexByteString with
        | true => match args with
          | [.string s, .int .u8 c] => some (some (.int .i64 (Lib.indexByte s.data.toList c.toNat.toUInt8), σ))
          | _ => some none
        | false => match Nat.beq f t.itoa with
          | true => match args with
            | [.int .i64 n] => match decide (-9223372036854775808 ≤ n) && decide (n ≤ 9223372036854775807) with
              | true => some (some (.string ⟨(itoaL n).toArray⟩, σ))
              | false => some none
            | _ => some none
          | false => match Nat.beq f t.fields with
            | true => match args with
              | [.string s] => match Nat.blt s.data.toList.length 4294967281 && s.data.toList.all (fun b => Nat.blt b.toNat 128) && Nat.blt (Lib.fields s.data.toList).length unk with
                | true => some (some (.slice (some ⟨σ.next, 0, none⟩) (Lib.fields s.data.toList).length (Lib.fields s.data.toList).length, σ.put ((Born.row ((Lib.fields s.data.toList).map fun l => Value.string ⟨l.toArray⟩) t.str).obj σ.next)))
                | false => some none
              | _ => some none
            | false => none

/-- What the functions are. -/
structure LibOK (P : Program) (J : World → Prop) (t : LibNums) : Prop where
  noEscape : IsExtern P t.noEscape Extern.AbiNoEscape.same
  makeNoZero : ∃ ps rt, IsExtern P t.makeNoZero (Extern.BytealgMakeNoZero.makeNoZero ps #[rt]) ∧ P.underlying rt = some (.slice t.u8)
  cells : P.cellsOf t.u8 = 1
  countString : IsExtern P t.countString Extern.BytealgCount.count
  indexByteString : IsExtern P t.indexByteString Extern.BytealgIndexByte.indexByte
  hasItoa : hasBody P t.itoa = true
  itoa : ∀ (n : Int), -9223372036854775808 ≤ n → n ≤ 9223372036854775807 → ∀ w, J w → Calls P t.itoa #[.int .i64 n] w fun e w' => e = .returned (.string ⟨(Lib.itoa n).toArray⟩) ∧ ∃ k os, w' = Sort.grow (w.drewN k) os
  hasFields : hasBody P t.fields = true
  fields : ∀ (s : ByteArray) (w : World), s.size < 4294967281 → (∀ (j : Nat) b, s.data.toList[j]? = some b → b.toNat < 128) → J w → Calls P t.fields #[.string s] w fun e w' =>
    e = .returned (.slice (some ⟨w.heap.size, 0, none⟩) (Lib.fields s.data.toList).length (Lib.fields s.data.toList).length) ∧ w' = w.alloc (.cells ((Lib.fields s.data.toList).map fun l => Value.string ⟨l.toArray⟩).toArray t.str)

theorem libX_ok {t : LibNums} (hng : Named P) (hL : LibOK P J t) : SummOK P N J (libX t) := by
  intro f args σ v σ' h ρ w args' hr hJ ha
  unfold libX at h
  split at h
  · rename_i hf
    have hf := Nat.eq_of_beq_eq_true hf
    subst hf
    split at h
    · rename_i x
      cases h
      cases ha with
      | cons h1 t1 =>
        cases t1
        exact callSem_extern hL.noEscape rfl ⟨ρ, .refl _ _, h1, hr, Below.refl _ _⟩
    · cases h
  · split at h
    · rename_i hf
      have hf := Nat.eq_of_beq_eq_true hf
      subst hf
      split at h
      · rename_i n
        split at h
        · rename_i hn
          cases h
          have hn := Nat.le_of_ble_eq_true hn
          cases ha with
          | cons h1 t1 =>
            cases t1
            cases h1
            obtain ⟨ps, rt, g1, g2⟩ := hL.makeNoZero
            obtain ⟨cs, k1, k2, _⟩ := Lib.run_makeNoZero (P := P) w ps rt t.u8 g2 n hn
            refine callSem_extern g1 k1 ?_
            have hb : BornRel P ρ (.row [] t.u8) (.cells cs t.u8 (0, 0)) := ⟨cs, (0, 0), rfl, Nat.zero_le _, fun i _ => by simp, fun i x hx => by cases hx⟩
            refine ⟨_, .ext hr.fresh_none rfl, ?_, new_sound hr hb rfl, push_below hr.size rfl rfl rfl rfl⟩
            refine .slice σ.next 0 n unk _ 0 cs.size (ext_self _ _ _) k2 (.inr rfl) (fun h => absurd h (Nat.lt_irrefl _)) fun _ => .inr ?_
            show 0 + cs.size * P.cellsOf t.u8 ≤ cs.size
            rw [hL.cells]
            omega
        · cases h
      · cases h
    · split at h
      · rename_i hf
        have hf := Nat.eq_of_beq_eq_true hf
        subst hf
        split at h
        · rename_i s c
          cases h
          cases ha with
          | cons h1 t1 => cases t1 with
            | cons h2 t2 =>
              cases t2
              cases h1
              cases h2
              exact callSem_extern hL.countString (Lib.run_countString s c w) ⟨ρ, .refl _ _, .int _ _, hr, Below.refl _ _⟩
        · cases h
      · split at h
        · rename_i hf
          have hf := Nat.eq_of_beq_eq_true hf
          subst hf
          split at h
          · rename_i s c
            cases h
            cases ha with
            | cons h1 t1 => cases t1 with
              | cons h2 t2 =>
                cases t2
                cases h1
                cases h2
                exact callSem_extern hL.indexByteString (Lib.run_indexByteString s c w) ⟨ρ, .refl _ _, .int _ _, hr, Below.refl _ _⟩
          · cases h
        · split at h
          · rename_i hf
            have hf := Nat.eq_of_beq_eq_true hf
            subst hf
            split at h
            · rename_i n
              split at h
              · rename_i hi
                cases h
                rw [Bool.and_eq_true] at hi
                have h0 := of_decide_eq_true hi.1
                have h1 := of_decide_eq_true hi.2
                cases ha with
                | cons g1 t1 =>
                  cases t1
                  cases g1
                  refine callSem_of hng hL.hasItoa ((hL.itoa n h0 h1 w hJ).mono ?_)
                  rintro e w' ⟨rfl, k, os, rfl⟩
                  rw [itoaL_eq h0 h1]
                  have hs : ∀ i, i < w.heap.size → (Sort.grow (w.drewN k) os).heap[i]? = w.heap[i]? := fun i hi => by
                    show (w.heap ++ os)[i]? = _
                    rw [Array.getElem?_append_left hi]
                  have hz : w.heap.size ≤ (Sort.grow (w.drewN k) os).heap.size := by
                    show _ ≤ (w.heap ++ os).size
                    simp
                  have hN := hr.size
                  exact ⟨_, rfl, ρ, .refl _ _, .str _, grown_rel hr hz hs, ⟨rfl, rfl, rfl, hz, fun i hi => hs i (by omega)⟩⟩
              · cases h
            · cases h
          · split at h
            · rename_i hf
              have hf := Nat.eq_of_beq_eq_true hf
              subst hf
              split at h
              · rename_i s
                split at h
                · rename_i hcond
                  simp only [Bool.and_eq_true] at hcond
                  obtain ⟨⟨h1, h2⟩, h3⟩ := hcond
                  have h1 := Nat.le_of_ble_eq_true h1
                  have h3 : (Lib.fields s.data.toList).length < unk := Nat.le_of_ble_eq_true h3
                  cases h
                  cases ha with
                  | cons g1 t1 =>
                    cases t1
                    cases g1
                    have hsz : s.size < 4294967281 := by
                      have : s.size = s.data.toList.length := (Array.length_toList (xs := s.data)).symm
                      omega
                    refine callSem_of hng hL.hasFields ((hL.fields s w hsz (fun j b hb => ?_) hJ).mono ?_)
                    · have := List.all_eq_true.mp h2 b (List.mem_of_getElem? hb)
                      exact Nat.le_of_ble_eq_true this
                    · rintro e w' ⟨rfl, rfl⟩
                      have hb : BornRel P ρ (.row ((Lib.fields s.data.toList).map fun l => Value.string ⟨l.toArray⟩) t.str) (.cells ((Lib.fields s.data.toList).map fun l => Value.string ⟨l.toArray⟩).toArray t.str (0, 0)) := born_row t.str (by
                        show LRel ρ _ ((Lib.fields s.data.toList).map fun l => Value.string ⟨l.toArray⟩)
                        generalize Lib.fields s.data.toList = l
                        induction l with
                        | nil => exact .nil
                        | cons x l ih => exact .cons (.str _) ih)
                      refine ⟨_, rfl, _, .ext hr.fresh_none rfl, ?_, new_sound hr hb rfl, push_below hr.size rfl rfl rfl rfl⟩
                      exact mk_slice σ _ rfl (Nat.le_refl _) (fun _ => rfl) fun hu => absurd hu (by omega)
                · cases h
              · cases h
            · cases h

end
end Go.Ke
