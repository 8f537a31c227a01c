/- Of package value: what 'values' answers, in every world in which the library's table of white space reads as it is laid. The condition: that table. -/
import Derived.Test.YtkpligcifakmjaaGreatDoorKeP
import Derived.Test.YtkpligcifakmjaaGreatDoorShelfM
import Derived.Test.YtkpligcifakmjaaGreatDoorChecked
import Derived.Lib.AppendIntMem
namespace Go.Ke
open Go.RowKit (Below)
open Go.Proofs

def hasBody (P : Program) (f : FuncId) : Bool := match P.funcs[f]? with
  | some fn => fn.body.isSome
  | none => false

theorem callSem_of {P : Program} (hng : Named P) {f : FuncId} {args : Array Value} {w : World} {R : Value → World → Prop} (hb : hasBody P f = true)
    (h : Calls P f args w fun e w' => ∃ v', e = .returned v' ∧ R v' w') : CallSem P f args w R := by
  intro o a K Q hK
  unfold hasBody at hb
  split at hb
  · rename_i fn hf
    cases hbd : fn.body with
    | none => rw [hbd] at hb; cases hb
    | some c =>
      rw [run_enter hng hf hbd, Oper.upon_enter]
      refine Calls.mono h fun e w' he => ?_
      obtain ⟨v', rfl, g⟩ := he
      exact hK v' w' g
  · cases hb

def namedB (p : Program) : Bool := p.funcs.toList.all fun fn => fn.body.isNone || fn.name != "runtime.NumGoroutine"

theorem named_of {p : Program} (h : namedB p = true) : Named p := by
  intro f fn c hf hb
  have := List.all_eq_true.mp h fn (by rw [Array.mem_toList_iff]; exact Array.mem_of_getElem? hf)
  rw [hb] at this
  simpa using this

/-- Two of the library's functions, by what they are. -/
noncomputable def sumX : Summ := fun f args σ => match Nat.beq f 152 with
  | true => match args with
    | [.string s, .int .u8 c] => some (some (.int .i64 (Lib.indexByte s.data.toList c.toNat.toUInt8), σ))
    | _ => some none
  | false => match Nat.beq f 216 with
    | true => match args with
      | [.string s] => match Nat.blt s.data.toList.length 4294967281 && s.data.toList.all (fun b => Nat.blt b.toNat 128) && Nat.blt (Lib.fields s.data.toList).length unk with
        | true => some (some (.slice (some ⟨σ.next, 0, none⟩) (Lib.fields s.data.toList).length (Lib.fields s.data.toList).length, σ.put ((Born.row ((Lib.fields s.data.toList).map fun l => Value.string ⟨l.toArray⟩) 9).obj σ.next)))
        | false => some none
      | _ => some none
    | false => none

def spaceTab (N : Nat) (w : World) : Prop := Lib.TabBelow Tryz.prog N w "strings.asciiSpace" .u8 Lib.asciiSpaceTab

theorem spaceTab_stable (N : Nat) : Stable N (spaceTab N) := fun _ _ h hJ => hJ.on h

theorem named_tryz : Named Tryz.prog := named_of (by kernel_rfl)

theorem has152 : hasBody Tryz.prog 152 = true := by kernel_rfl
theorem has216 : hasBody Tryz.prog 216 = true := by kernel_rfl

set_option maxRecDepth 100000 in
theorem sumX_ok (N : Nat) : SummOK Tryz.prog N (spaceTab N) sumX := by
  intro f args σ v σ' h ρ w args' hr hJ ha
  unfold sumX at h
  split at h
  · rename_i hf
    have hf := Nat.eq_of_beq_eq_true hf
    subst hf
    split at h
    · rename_i s c
      cases h
      cases ha with
      | cons h1 t1 =>
        cases t1 with
        | cons h2 t2 =>
          cases t2
          cases h1
          cases h2
          refine callSem_of named_tryz has152 ((Tryz.stringslite_IndexByte s c w).mono ?_)
          rintro e w' ⟨rfl, rfl⟩
          exact ⟨_, rfl, ρ, Loc.le_refl _, .int _ _, hr, Below.refl _ _⟩
    · cases h
  · split at h
    · rename_i hf
      have hf := Nat.eq_of_beq_eq_true hf
      subst hf
      split at h
      · rename_i s
        split at h
        · rename_i hcond
          simp only [Bool.and_eq_true] at hcond
          obtain ⟨⟨h1, h2⟩, h3⟩ := hcond
          have h1 := Nat.le_of_ble_eq_true h1
          have h3 : (Lib.fields s.data.toList).length < unk := Nat.le_of_ble_eq_true h3
          cases h
          cases ha with
          | cons g1 t1 =>
            cases t1
            cases g1
            have hsz : s.size < 4294967281 := by
              have : s.size = s.data.toList.length := (Array.length_toList (xs := s.data)).symm
              omega
            refine callSem_of named_tryz has216 ((Tryz.strings_Fields s w hsz (fun j b hb => ?_) hJ.here).mono ?_)
            · have := List.all_eq_true.mp h2 b (List.mem_of_getElem? hb)
              exact Nat.le_of_ble_eq_true this
            · rintro e w' ⟨rfl, rfl⟩
              have hb : BornRel Tryz.prog ρ (.row ((Lib.fields s.data.toList).map fun l => Value.string ⟨l.toArray⟩) 9) (.cells ((Lib.fields s.data.toList).map fun l => Value.string ⟨l.toArray⟩).toArray 9 (0, 0)) := born_row 9 (by
                show LRel ρ _ ((Lib.fields s.data.toList).map fun l => Value.string ⟨l.toArray⟩)
                generalize Lib.fields s.data.toList = l
                induction l with
                | nil => exact .nil
                | cons x l ih => exact .cons (.str _) ih)
              refine ⟨_, rfl, _, Loc.le_ext hr.fresh_none, ?_, new_sound hr hb rfl, push_below hr.size rfl rfl rfl rfl⟩
              exact mk_slice σ _ rfl (Nat.le_refl _) (fun _ => rfl) fun hu => absurd hu (by omega)
        · cases h
      · cases h
    · cases h

end Go.Ke
namespace Go.Proofs
open Go.Ke Go.RowKit

set_option maxRecDepth 1000000 in
theorem values_gate : gate Tryz.prog sumX (fun _ _ => false) St.empty 9 = true := by kernel_rfl

theorem sumX_values : sumX 9 [] St.empty = none := by kernel_rfl

theorem tryz_mixed : Tryz.prog.follows .mixedOrders = true := Checked.mixed Tryz.checked

set_option maxRecDepth 100000 in
theorem Tryz.values_calls (w : World) (htab : Lib.TabIs Tryz.prog w "strings.asciiSpace" .u8 Lib.asciiSpaceTab) :
    Calls Tryz.prog 9 #[] w fun e w' => e = .returned (.bool true) ∧ Below w.heap.size w w' :=
  gate_sound (spaceTab_stable w.heap.size) tryz_mixed named_tryz noDefer (sumX_ok w.heap.size) sumX_values values_gate (empty_rel w) (Lib.tabBelow_of_tabIs htab)

end Go.Proofs
