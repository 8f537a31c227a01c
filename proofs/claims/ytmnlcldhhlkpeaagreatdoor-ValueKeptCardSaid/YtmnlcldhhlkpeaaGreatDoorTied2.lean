/- The tie of the row's listed variables to the program's text, one closed fact a theorem: together they need more memory than a process may take. Conditions: none. -/
import Derived.Test.YtmnlcldhhlkpeaaGreatDoorTied
namespace Go.Proofs.YtmnlcldhhlkpeaaGreatDoor
open Go
set_option maxRecDepth 20000

def backLaid : List (String × DataW Unit) := [("internal/strconv.uint64pow10", Rows.laid_internal_strconv_uint64pow10), ("math/bits.deBruijn32tab", Rows.laid_math_bits_deBruijn32tab), ("math/bits.deBruijn64tab", Rows.laid_math_bits_deBruijn64tab), ("unicode/utf8.acceptRanges", Rows.laid_unicode_utf8_acceptRanges), ("strconv.ErrSyntax", Rows.laid_strconv_ErrSyntax), ("strconv.ErrRange", Rows.laid_strconv_ErrRange), ("strings.asciiSpace", Rows.laid_strings_asciiSpace), ("unicode.White_Space", Rows.laid_unicode_White_Space)]
def backKinds : List LaidKind := [.data, .data, .data, .data, .sentinel, .sentinel, .data, .listed]


theorem back_kinds : (backLaid).map (fun x => Tryz.prog.kindOfLater x.1) = (backKinds).map some := by kernel_rfl
theorem back_named : varsNamedLaterB Tryz.prog (varsId Tryz.prog) backLaid = true := by kernel_rfl
theorem back_reads (os : Os) (tape : Tape) : (DataW.laidRun Tryz.prog (varsWorld Tryz.prog 400 (varsId Tryz.prog) os tape).memory 8 ((backLaid).map (·.1))).map (·.1) = some backLaid := by kernel_rfl
theorem back_apart (os : Os) (tape : Tape) : (DataW.laidRun Tryz.prog (varsWorld Tryz.prog 400 (varsId Tryz.prog) os tape).memory 8 ((backLaid).map (·.1))).map (fun x => apart 0 x.2 && laidRowsB Tryz.prog (varsWorld Tryz.prog 400 (varsId Tryz.prog) os tape).memory x.2) = some true := by kernel_rfl

theorem back_tie : Tryz.prog.laidByTextLater backLaid backKinds true :=
  Program.laidByTextLater_by_run 400 8 laws_worded laws_unworded laws_root back_kinds laws_there back_named laws_done back_reads (fun os tape => apart_decide (back_apart os tape)) (by kernel_rfl)

theorem fits2 : Tryz.pinned.checked.prog.listedFits [("internal/strconv.uint64pow10", Rows.laid_internal_strconv_uint64pow10), ("math/bits.deBruijn32tab", Rows.laid_math_bits_deBruijn32tab), ("math/bits.deBruijn64tab", Rows.laid_math_bits_deBruijn64tab), ("unicode/utf8.first", Rows.laid_unicode_utf8_first), ("unicode/utf8.acceptRanges", Rows.laid_unicode_utf8_acceptRanges), ("strconv.ErrSyntax", Rows.laid_strconv_ErrSyntax), ("strconv.ErrRange", Rows.laid_strconv_ErrRange), ("strings.asciiSpace", Rows.laid_strings_asciiSpace), ("unicode.White_Space", Rows.laid_unicode_White_Space), ("unicode.CaseRanges", Rows.laid_unicode_CaseRanges)] = true := by
  unfold Program.listedFits
  rw [noOwnUnsafe]
  kernel_rfl
theorem valueBack_row_tie : Rows.valueBackRow.laidByTextAt .later Tryz.pinned [.data, .data, .data, .pinned, .data, .sentinel, .sentinel, .data, .listed, .pinned] true :=
  OpenClaim.laidByTextAt_pinned rfl rfl back_tie rfl rfl rfl rfl (fun y hy _e => by
    simp only [Rows.valueBackRow, List.zip_cons_cons, List.zip_nil_right, List.mem_cons, List.mem_nil_iff, or_false] at hy
    rcases hy with rfl | rfl | rfl | rfl | rfl | rfl | rfl | rfl | rfl | rfl
    · cases _e
    · cases _e
    · cases _e
    · exact ⟨pin_laid_unicode_utf8_first, by kernel_rfl⟩
    · cases _e
    · cases _e
    · cases _e
    · cases _e
    · cases _e
    · exact ⟨pin_laid_unicode_CaseRanges, by kernel_rfl⟩) fits2
theorem valueKept_row_tie : Rows.valueKeptRow.laidByTextAt .later Tryz.pinned [.data, .data, .data, .pinned, .data, .sentinel, .sentinel, .data, .listed, .pinned] true :=
  OpenClaim.laidByTextAt_pinned rfl rfl back_tie rfl rfl rfl rfl (fun y hy _e => by
    simp only [Rows.valueKeptRow, List.zip_cons_cons, List.zip_nil_right, List.mem_cons, List.mem_nil_iff, or_false] at hy
    rcases hy with rfl | rfl | rfl | rfl | rfl | rfl | rfl | rfl | rfl | rfl
    · cases _e
    · cases _e
    · cases _e
    · exact ⟨pin_laid_unicode_utf8_first, by kernel_rfl⟩
    · cases _e
    · cases _e
    · cases _e
    · cases _e
    · cases _e
    · exact ⟨pin_laid_unicode_CaseRanges, by kernel_rfl⟩) fits2
end Go.Proofs.YtmnlcldhhlkpeaaGreatDoor
