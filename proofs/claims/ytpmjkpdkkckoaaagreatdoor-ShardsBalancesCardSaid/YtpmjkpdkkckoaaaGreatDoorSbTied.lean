/- The tie of the row's listed variables to the program's text, one closed fact a theorem: together they need more memory than a process may take. Conditions: none. -/
import Derived.Test.YtpmjkpdkkckoaaaGreatDoorRows
import Derived.Test.YtpmjkpdkkckoaaaGreatDoorSbNames
import Derived.LaidByTextLater
import Derived.SevenTiedAt
namespace Go.Proofs.YtpmjkpdkkckoaaaGreatDoor
open Go Go.Proofs.Big
set_option maxRecDepth 20000
def keyOf : MemPlace → Nat
  | .cell b off => b * 512 + off
  | .map b => b * 512

def apart (m : Nat) : List MemPlace → Bool
  | [] => true
  | p :: ps => !(m.testBit (keyOf p)) && apart (m ||| 1 <<< keyOf p) ps

theorem apart_nodup : ∀ (ps : List MemPlace) (m : Nat), apart m ps = true → ps.Nodup ∧ ∀ p ∈ ps, m.testBit (keyOf p) = false
  | [], _, _ => ⟨List.nodup_nil, fun _ h => by cases h⟩
  | p :: ps, m, h => by
    simp only [apart, Bool.and_eq_true, Bool.not_eq_true'] at h
    obtain ⟨i1, i2⟩ := apart_nodup ps _ h.2
    refine ⟨List.nodup_cons.2 ⟨fun hp => ?_, i1⟩, fun q hq => ?_⟩
    · have := i2 p hp
      simp [Nat.testBit_or, Nat.one_shiftLeft] at this
    · rcases List.mem_cons.1 hq with rfl | hq
      · exact h.1
      · have := i2 q hq
        simp only [Nat.testBit_or, Bool.or_eq_false_iff] at this
        exact this.1

theorem apart_decide {P : Program} {w : World} {o : Option (List (String × DataW Unit) × List MemPlace)}
    (h : o.map (fun x => apart 0 x.2 && laidRowsB P w x.2) = some true) :
    o.map (fun x => decide x.2.Nodup && laidRowsB P w x.2) = some true := by
  cases o with
  | none => simp at h
  | some x =>
    simp only [Option.map_some, Option.some.injEq, Bool.and_eq_true, decide_eq_true_eq] at h ⊢
    exact ⟨(apart_nodup _ _ h.1).1, h.2⟩

def lawsLaid : List (String × DataW Unit) := [("unicode/utf8.acceptRanges", Rows.laid_unicode_utf8_acceptRanges), ("internal/strconv.uint64pow10", Rows.laid_internal_strconv_uint64pow10), ("math/bits.deBruijn32tab", Rows.laid_math_bits_deBruijn32tab), ("math/bits.deBruijn64tab", Rows.laid_math_bits_deBruijn64tab), ("strings.asciiSpace", Rows.laid_strings_asciiSpace), ("unicode.White_Space", Rows.laid_unicode_White_Space), ("strconv.ErrSyntax", Rows.laid_strconv_ErrSyntax), ("strconv.ErrRange", Rows.laid_strconv_ErrRange)]
def lawsKinds : List LaidKind := [.data, .data, .data, .data, .data, .listed, .sentinel, .sentinel]

theorem w_at : (nobs.any fun fn => fn.name == varsWordLater true) = true := by kernel_rfl
theorem u_at : (nobs.any fun fn => fn.name == varsWordLater !true) = false := by kernel_rfl
theorem r_at : (nobs.any fun fn => fn.name == rootWordLater) = true := by kernel_rfl
theorem laws_worded : Tryz.prog.worded (varsWordLater true) = true := (worded_is _).trans w_at
theorem laws_unworded : Tryz.prog.worded (varsWordLater !true) = false := (worded_is _).trans u_at
theorem laws_root : Tryz.prog.worded rootWordLater = true := (worded_is _).trans r_at
theorem laws_kinds : (lawsLaid).map (fun x => Tryz.prog.kindOfLater x.1) = (lawsKinds).map some := by kernel_rfl
theorem laws_named : varsNamedLaterB Tryz.prog 1129 lawsLaid = true := by kernel_rfl
theorem laws_done (os : Os) (tape : Tape) : varsDone Tryz.prog 400 1129 os tape = true := by kernel_rfl
theorem laws_reads (os : Os) (tape : Tape) : (DataW.laidRun Tryz.prog (varsWorld Tryz.prog 400 1129 os tape).memory 8 ((lawsLaid).map (·.1))).map (·.1) = some lawsLaid := by kernel_rfl
theorem laws_apart (os : Os) (tape : Tape) : (DataW.laidRun Tryz.prog (varsWorld Tryz.prog 400 1129 os tape).memory 8 ((lawsLaid).map (·.1))).map (fun x => apart 0 x.2 && laidRowsB Tryz.prog (varsWorld Tryz.prog 400 1129 os tape).memory x.2) = some true := by kernel_rfl

theorem laws_tie : Tryz.prog.laidByTextLater lawsLaid lawsKinds true :=
  Program.laidByTextLater_of_run 1129 400 8 laws_worded laws_unworded laws_root laws_kinds var_named laws_named laws_done laws_reads (fun os tape => apart_decide (laws_apart os tape)) (by kernel_rfl)

theorem pinned_of (P : Program) (v : String) (g : FuncId) (hg : P.funcNamed "gosem.cut.vars" = some g) (h1 : P.wordedOn v (kindTail .pinned) = true) (h2 : (P.kindBase v).isNone = true)
    (h3 : ((P.globalNamed v).any fun n => (((P.funcs[g]?).bind (·.body)).bind (·.laysInOrder [])).any fun stored => !stored.contains n) = true) : P.pinnedFits v = true := by
  unfold Program.pinnedFits
  rw [h1, h2, hg]
  exact h3

theorem pin_laid_unicode_utf8_first : Tryz.pinned.checked.prog.pinnedFits "unicode/utf8.first" = true := pinned_of Tryz.prog _ 1129 var_named (by kernel_rfl) (by kernel_rfl) (by kernel_rfl)
theorem pin_laid_unicode_CaseRanges : Tryz.pinned.checked.prog.pinnedFits "unicode.CaseRanges" = true := pinned_of Tryz.prog _ 1129 var_named (by kernel_rfl) (by kernel_rfl) (by kernel_rfl)
theorem noOwnUnsafe : Tryz.pinned.checked.prog.headLifts.contains "ownunsafe" = false := by kernel_rfl
theorem fits1 : Tryz.pinned.checked.prog.listedFits [("unicode/utf8.first", Rows.laid_unicode_utf8_first), ("unicode/utf8.acceptRanges", Rows.laid_unicode_utf8_acceptRanges), ("internal/strconv.uint64pow10", Rows.laid_internal_strconv_uint64pow10), ("math/bits.deBruijn32tab", Rows.laid_math_bits_deBruijn32tab), ("math/bits.deBruijn64tab", Rows.laid_math_bits_deBruijn64tab), ("strings.asciiSpace", Rows.laid_strings_asciiSpace), ("unicode.White_Space", Rows.laid_unicode_White_Space), ("strconv.ErrSyntax", Rows.laid_strconv_ErrSyntax), ("strconv.ErrRange", Rows.laid_strconv_ErrRange), ("unicode.CaseRanges", Rows.laid_unicode_CaseRanges)] = true := by
  unfold Program.listedFits
  rw [noOwnUnsafe]
  kernel_rfl
theorem shardsBalances_row_tie : Rows.shardsBalancesRow.laidByTextAt .later Tryz.pinned [.pinned, .data, .data, .data, .data, .data, .listed, .sentinel, .sentinel, .pinned] true :=
  OpenClaim.laidByTextAt_pinned rfl rfl laws_tie rfl rfl rfl rfl (fun y hy _e => by
    simp only [Rows.shardsBalancesRow, List.zip_cons_cons, List.zip_nil_right, List.mem_cons, List.mem_nil_iff, or_false] at hy
    rcases hy with rfl | rfl | rfl | rfl | rfl | rfl | rfl | rfl | rfl | rfl
    · exact ⟨pin_laid_unicode_utf8_first, by kernel_rfl⟩
    · cases _e
    · cases _e
    · cases _e
    · cases _e
    · cases _e
    · cases _e
    · cases _e
    · cases _e
    · exact ⟨pin_laid_unicode_CaseRanges, by kernel_rfl⟩) fits1
end Go.Proofs.YtpmjkpdkkckoaaaGreatDoor
