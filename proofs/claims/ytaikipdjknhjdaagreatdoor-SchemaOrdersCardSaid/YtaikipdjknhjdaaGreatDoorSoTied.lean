/- The tie of the row's listed variables to the program's text, one closed fact a theorem: together they need more memory than a process may take. Conditions: none. -/
import Derived.Test.YtaikipdjknhjdaaGreatDoorRows
import Derived.LaidByTextLater
import Derived.SevenTiedAt
namespace Go.Proofs.YtaikipdjknhjdaaGreatDoor
open Go
set_option maxRecDepth 20000
def keyOf : MemPlace → Nat
  | .cell b off => b * 512 + off
  | .map b => b * 512

def apart (m : Nat) : List MemPlace → Bool
  | [] => true
  | p :: ps => !(m.testBit (keyOf p)) && apart (m ||| 1 <<< keyOf p) ps

theorem apart_nodup : ∀ (ps : List MemPlace) (m : Nat), apart m ps = true → ps.Nodup ∧ ∀ p ∈ ps, m.testBit (keyOf p) = false
  | [], _, _ => ⟨List.nodup_nil, fun _ h => by cases h⟩
  | p :: ps, m, h => by
    simp only [apart, Bool.and_eq_true, Bool.not_eq_true'] at h
    obtain ⟨i1, i2⟩ := apart_nodup ps _ h.2
    refine ⟨List.nodup_cons.2 ⟨fun hp => ?_, i1⟩, fun q hq => ?_⟩
    · have := i2 p hp
      simp [Nat.testBit_or, Nat.one_shiftLeft] at this
    · rcases List.mem_cons.1 hq with rfl | hq
      · exact h.1
      · have := i2 q hq
        simp only [Nat.testBit_or, Bool.or_eq_false_iff] at this
        exact this.1

theorem apart_decide {P : Program} {w : World} {o : Option (List (String × DataW Unit) × List MemPlace)}
    (h : o.map (fun x => apart 0 x.2 && laidRowsB P w x.2) = some true) :
    o.map (fun x => decide x.2.Nodup && laidRowsB P w x.2) = some true := by
  cases o with
  | none => simp at h
  | some x =>
    simp only [Option.map_some, Option.some.injEq, Bool.and_eq_true, decide_eq_true_eq] at h ⊢
    exact ⟨(apart_nodup _ _ h.1).1, h.2⟩

def lawsLaid : List (String × DataW Unit) := [("unicode/utf8.acceptRanges", Rows.laid_unicode_utf8_acceptRanges), ("strings.asciiSpace", Rows.laid_strings_asciiSpace), ("unicode.White_Space", Rows.laid_unicode_White_Space), ("strconv.ErrSyntax", Rows.laid_strconv_ErrSyntax), ("strconv.ErrRange", Rows.laid_strconv_ErrRange), ("internal/strconv.uint64pow10", Rows.laid_internal_strconv_uint64pow10), ("math/bits.deBruijn32tab", Rows.laid_math_bits_deBruijn32tab), ("math/bits.deBruijn64tab", Rows.laid_math_bits_deBruijn64tab)]
def lawsKinds : List LaidKind := [.data, .data, .listed, .sentinel, .sentinel, .data, .data, .data]

theorem laws_worded : Tryz.prog.worded (varsWordLater true) = true := by kernel_rfl
theorem laws_unworded : Tryz.prog.worded (varsWordLater !true) = false := by kernel_rfl
theorem laws_root : Tryz.prog.worded rootWordLater = true := by kernel_rfl
theorem laws_kinds : (lawsLaid).map (fun x => Tryz.prog.kindOfLater x.1) = (lawsKinds).map some := by kernel_rfl
theorem laws_there : (Tryz.prog.funcNamed "gosem.cut.vars").isSome = true := by kernel_rfl
theorem laws_named : varsNamedLaterB Tryz.prog (varsId Tryz.prog) lawsLaid = true := by kernel_rfl
theorem laws_done (os : Os) (tape : Tape) : varsDone Tryz.prog 400 (varsId Tryz.prog) os tape = true := by kernel_rfl
theorem laws_reads (os : Os) (tape : Tape) : (DataW.laidRun Tryz.prog (varsWorld Tryz.prog 400 (varsId Tryz.prog) os tape).memory 8 ((lawsLaid).map (·.1))).map (·.1) = some lawsLaid := by kernel_rfl
theorem laws_apart (os : Os) (tape : Tape) : (DataW.laidRun Tryz.prog (varsWorld Tryz.prog 400 (varsId Tryz.prog) os tape).memory 8 ((lawsLaid).map (·.1))).map (fun x => apart 0 x.2 && laidRowsB Tryz.prog (varsWorld Tryz.prog 400 (varsId Tryz.prog) os tape).memory x.2) = some true := by kernel_rfl

theorem laws_tie : Tryz.prog.laidByTextLater lawsLaid lawsKinds true :=
  Program.laidByTextLater_by_run 400 8 laws_worded laws_unworded laws_root laws_kinds laws_there laws_named laws_done laws_reads (fun os tape => apart_decide (laws_apart os tape)) (by kernel_rfl)

theorem pin_laid_unicode_utf8_first : Tryz.pinned.checked.prog.pinnedFits "unicode/utf8.first" = true := by kernel_rfl
theorem noOwnUnsafe : Tryz.pinned.checked.prog.headLifts.contains "ownunsafe" = false := by kernel_rfl
theorem fits1 : Tryz.pinned.checked.prog.listedFits [("unicode/utf8.first", Rows.laid_unicode_utf8_first), ("unicode/utf8.acceptRanges", Rows.laid_unicode_utf8_acceptRanges), ("strings.asciiSpace", Rows.laid_strings_asciiSpace), ("unicode.White_Space", Rows.laid_unicode_White_Space), ("strconv.ErrSyntax", Rows.laid_strconv_ErrSyntax), ("strconv.ErrRange", Rows.laid_strconv_ErrRange), ("internal/strconv.uint64pow10", Rows.laid_internal_strconv_uint64pow10), ("math/bits.deBruijn32tab", Rows.laid_math_bits_deBruijn32tab), ("math/bits.deBruijn64tab", Rows.laid_math_bits_deBruijn64tab)] = true := by
  unfold Program.listedFits
  rw [noOwnUnsafe]
  kernel_rfl
theorem schemaOrders_row_tie : Rows.schemaOrdersRow.laidByTextAt .later Tryz.pinned [.pinned, .data, .data, .listed, .sentinel, .sentinel, .data, .data, .data] true :=
  OpenClaim.laidByTextAt_pinned rfl rfl laws_tie rfl rfl rfl rfl (fun y hy _e => by
    simp only [Rows.schemaOrdersRow, List.zip_cons_cons, List.zip_nil_right, List.mem_cons, List.mem_nil_iff, or_false] at hy
    rcases hy with rfl | rfl | rfl | rfl | rfl | rfl | rfl | rfl | rfl
    · exact ⟨pin_laid_unicode_utf8_first, by kernel_rfl⟩
    · cases _e
    · cases _e
    · cases _e
    · cases _e
    · cases _e
    · cases _e
    · cases _e
    · cases _e) fits1
end Go.Proofs.YtaikipdjknhjdaaGreatDoor
