/- The schema of the law in the world: tableAt, TableAt and foreign, by Ke. No condition. -/
import Derived.Test.YtaikipdjknhjdaaGreatDoorRuns
namespace Go.Ke
open Go.Proofs
open Go.RowKit (Below)

/-! ### Lists -/

theorem upTo_succ {α : Type} (f : Nat → List α) (n : Nat) : upTo f (n + 1) = upTo f n ++ f n := rfl

theorem F2.upTo {α β : Type} {R : α → β → Prop} {f : Nat → List α} {g : Nat → List β} : ∀ {n : Nat}, (∀ j, j < n → F2 R (f j) (g j)) → F2 R (upTo f n) (upTo g n) := by
  intro n
  induction n with
  | zero => intro _; exact .nil
  | succ n ih => intro h; exact (ih fun j hj => h j (by omega)).append (h n (by omega))

theorem F2.get {α β : Type} {R : α → β → Prop} {a : List α} {b : List β} (h : F2 R a b) : ∀ {i : Nat} {x : α}, a[i]? = some x → ∃ y, b[i]? = some y ∧ R x y := by
  induction h with
  | nil => intro i x hx; simp at hx
  | cons hxy _ ih =>
    intro i x hx
    cases i with
    | zero => simp at hx; subst hx; exact ⟨_, by simp, hxy⟩
    | succ i => simpa using ih (by simpa using hx)

theorem pair_len {α : Type} (a b : Nat → α) : ∀ n, (upTo (fun j => [a j, b j]) n).length = 2 * n := by
  intro n
  induction n with
  | zero => rfl
  | succ n ih => rw [upTo_succ, List.length_append, ih]; simp; omega

theorem pair_get {α : Type} (a b : Nat → α) : ∀ {n j : Nat}, j < n → (upTo (fun j => [a j, b j]) n)[2 * j]? = some (a j) ∧ (upTo (fun j => [a j, b j]) n)[2 * j + 1]? = some (b j) := by
  intro n
  induction n with
  | zero => intro j h; cases h
  | succ n ih =>
    intro j h
    rw [upTo_succ]
    by_cases e : j = n
    · subst e
      have := pair_len a b j
      rw [List.getElem?_append_right (by omega), List.getElem?_append_right (by omega), this]
      simp
    · have := pair_len a b n
      rw [List.getElem?_append_left (by omega), List.getElem?_append_left (by omega)]
      exact ih (by omega)

/-! ### Blocks -/

def RowOk (ρ : Loc) (w : World) (x : RoA) (b : Nat) : Prop := ∃ c fz, w.heap[b]? = some (.cells c x.elem fz) ∧ x.len ≤ c.size ∧ ∀ i v, i < x.len → x.cells.get i = some v → ∃ v', c[i]? = some v' ∧ VRel ρ v v'

theorem rowOk_of {ρ : Loc} {w : World} {elem : TypeId} {l l' rest : List Value} {b : Nat} {fz : Nat × Nat} (h : w.heap[b]? = some (.cells (l' ++ rest).toArray elem fz)) (hl : LRel ρ l l') : RowOk ρ w (rowA elem l) b := by
  have hlen := hl.length
  refine ⟨_, fz, h, by show l.length ≤ _; simp [hlen], fun i v hi hv => ?_⟩
  have hi' : i < l.length := hi
  have hv' : (fillTr l 0 .nil).get i = some v := hv
  rw [get_fillTr, if_pos ⟨Nat.zero_le _, by omega⟩, Nat.sub_zero] at hv'
  obtain ⟨v', h1, h2⟩ := hl.get i v hv'
  refine ⟨v', ?_, h2⟩
  rw [List.getElem?_toArray, List.getElem?_append_left (by omega)]
  exact h1

theorem ro_all {P : Program} {l : List RoA} {bs : List Nat} {w : World} (hn : bs.Nodup) (h : F2 (RowOk (roLoc P l bs w) w) l bs) : RoAt P l bs (roLoc P l bs w) w := by
  refine ro_at h.length.symm (fun k k' b h1 h2 => ?_) fun k x b h1 h2 => ?_
  · obtain ⟨g1, e1⟩ := List.getElem?_eq_some_iff.mp h1
    obtain ⟨g2, e2⟩ := List.getElem?_eq_some_iff.mp h2
    have hp := List.pairwise_iff_getElem.mp hn
    rcases Nat.lt_trichotomy k k' with h | h | h
    · exact absurd (e1.trans e2.symm) (hp _ _ g1 g2 h)
    · exact h
    · exact absurd (e2.trans e1.symm) (hp _ _ g2 g1 h)
  · obtain ⟨y, g1, g2⟩ := h.get h1
    rw [h2] at g1
    cases g1
    exact g2

/-! ### The schema -/

def tabV (cb kb : Nat → Nat) (F : Nat → Value) (j : Nat) : List Value := [.string (nameL j), .slice (some ⟨cb j, 0, none⟩) 2 2, .slice (some ⟨kb j, 0, none⟩) 1 1, F j, .slice none 0 0]

structure SchAt (w : World) (n tb cap : Nat) (cb kb : Nat → Nat) (F : Nat → Value) : Prop where
  tab : ∃ rest fz, w.heap[tb]? = some (.cells (upTo (tabV cb kb F) n ++ rest).toArray 39 fz) ∧ cap * 5 ≤ (upTo (tabV cb kb F) n ++ rest).length
  le : n ≤ cap
  cols : ∀ j, j < n → ∃ fz, w.heap[cb j]? = some (.cells colCells.toArray 33 fz)
  keys : ∀ j, j < n → ∃ fz, w.heap[kb j]? = some (.cells #[.string idL] 9 fz)
  nodup : (tb :: upTo (fun j => [cb j, kb j]) n).Nodup
  any : ∀ j, j < n → anyV (F j) = true

noncomputable def bsOf (n tb : Nat) (cb kb : Nat → Nat) : List Nat := tb :: upTo (fun j => [cb j, kb j]) n

theorem sz39 : Tryz.prog.cellsOf 39 = 5 := by kernel_rfl

theorem baseA_len (n : Nat) (Fa : Nat → Value) : (baseA n Fa).length = 2 * n + 1 := by
  unfold baseA
  rw [List.length_cons, pair_len (fun _ => rowA 33 colCells) (fun _ => rowA 9 [.string idL])]

theorem baseA_col (n : Nat) (Fa : Nat → Value) {j : Nat} (h : j < n) : (baseA n Fa)[2 * j + 1]? = some (rowA 33 colCells) ∧ (baseA n Fa)[2 * j + 2]? = some (rowA 9 [.string idL]) := by
  unfold baseA
  exact pair_get (fun _ => rowA 33 colCells) (fun _ => rowA 9 [.string idL]) h

theorem bsOf_col (n tb : Nat) (cb kb : Nat → Nat) {j : Nat} (h : j < n) : (bsOf n tb cb kb)[2 * j + 1]? = some (cb j) ∧ (bsOf n tb cb kb)[2 * j + 2]? = some (kb j) := by
  unfold bsOf
  exact pair_get cb kb h

section
variable {w : World} {n tb cap : Nat} {cb kb : Nat → Nat} {F Fa : Nat → Value} {le : List RoA} {be : List Nat}

theorem sch_get {k : Nat} {x : RoA} (h : (baseA n Fa)[k]? = some x) : (baseA n Fa ++ le)[k]? = some x := by
  rw [List.getElem?_append_left (List.getElem?_eq_some_iff.mp h).1]; exact h
theorem bs_get {k b : Nat} (h : (bsOf n tb cb kb)[k]? = some b) : (bsOf n tb cb kb ++ be)[k]? = some b := by
  rw [List.getElem?_append_left (List.getElem?_eq_some_iff.mp h).1]; exact h

theorem sch_loc (h : SchAt w n tb cap cb kb F) {j : Nat} (hj : j < n) : roLoc Tryz.prog (baseA n Fa ++ le) (bsOf n tb cb kb ++ be) w (2 * j + 1) = some ⟨cb j, 0, 12, Tryz.prog.cellsOf 33⟩ ∧
    roLoc Tryz.prog (baseA n Fa ++ le) (bsOf n tb cb kb ++ be) w (2 * j + 2) = some ⟨kb j, 0, 1, Tryz.prog.cellsOf 9⟩ := by
  obtain ⟨fz, h1⟩ := h.cols j hj
  obtain ⟨fz', h2⟩ := h.keys j hj
  exact ⟨roLoc_row (sch_get (baseA_col n Fa hj).1) (bs_get (bsOf_col n tb cb kb hj).1) h1, roLoc_row (sch_get (baseA_col n Fa hj).2) (bs_get (bsOf_col n tb cb kb hj).2) h2⟩

theorem sch_tab (h : SchAt w n tb cap cb kb F) : ∃ m, cap * 5 ≤ m ∧ roLoc Tryz.prog (baseA n Fa ++ le) (bsOf n tb cb kb ++ be) w 0 = some ⟨tb, 0, m, 5⟩ := by
  obtain ⟨rest, fz, h1, h2⟩ := h.tab
  refine ⟨_, h2, ?_⟩
  have := roLoc_row (P := Tryz.prog) (l := baseA n Fa ++ le) (bs := bsOf n tb cb kb ++ be) (k := 0) rfl rfl h1
  rw [this]
  show some (Pl.mk tb 0 _ (Tryz.prog.cellsOf 39)) = _
  rw [sz39, List.size_toArray]

theorem sArg_rel (h : SchAt w n tb cap cb kb F) : VRel (roLoc Tryz.prog (baseA n Fa ++ le) (bsOf n tb cb kb ++ be) w) (sArg n) (.agg #[.slice (some ⟨tb, 0, none⟩) n cap]) := by
  obtain ⟨m, h1, h2⟩ := sch_tab (Fa := Fa) (le := le) (be := be) h
  refine .agg _ _ rfl fun i h3 h4 => ?_
  have : i = 0 := by simp at h3; omega
  subst this
  exact slice_rel h2 h.le h1

theorem tab_rel (h : SchAt w n tb cap cb kb F) {j : Nat} (hj : j < n) {v : Value} (hv : VRel (roLoc Tryz.prog (baseA n Fa ++ le) (bsOf n tb cb kb ++ be) w) v (F j)) : LRel (roLoc Tryz.prog (baseA n Fa ++ le) (bsOf n tb cb kb ++ be) w) (tabCells j v) (tabV cb kb F j) := by
  obtain ⟨h1, h2⟩ := sch_loc (Fa := Fa) (le := le) (be := be) h hj
  exact .cons (.str _) (.cons (slice_rel' h1 (Nat.le_refl _) (by decide)) (.cons (slice_rel' h2 (Nat.le_refl _) (by decide)) (.cons hv (.cons .snil .nil))))

theorem sch_ro (h : SchAt w n tb cap cb kb F) (hn : (bsOf n tb cb kb ++ be).Nodup) (hF : ∀ j, j < n → VRel (roLoc Tryz.prog (baseA n Fa ++ le) (bsOf n tb cb kb ++ be) w) (Fa j) (F j))
    (he : F2 (RowOk (roLoc Tryz.prog (baseA n Fa ++ le) (bsOf n tb cb kb ++ be) w) w) le be) : RoAt Tryz.prog (baseA n Fa ++ le) (bsOf n tb cb kb ++ be) (roLoc Tryz.prog (baseA n Fa ++ le) (bsOf n tb cb kb ++ be) w) w := by
  refine ro_all hn (F2.append (.cons ?_ (F2.upTo fun j hj => ?_)) he)
  · obtain ⟨rest, fz, h1, _⟩ := h.tab
    exact rowOk_of h1 (F2.upTo fun j hj => tab_rel h hj (hF j hj))
  · obtain ⟨fz, h1⟩ := h.cols j hj
    obtain ⟨fz', h2⟩ := h.keys j hj
    refine .cons (rowOk_of (l' := colCells) (rest := []) (by rw [List.append_nil]; exact h1) ?_) (.cons (rowOk_of (l' := [.string idL]) (rest := []) h2 (.cons (.str _) .nil)) .nil)
    exact .cons (.str _) (.cons (.int _ _) (.cons (.bool _) (.cons (.int _ _) (.cons (.int _ _) (.cons (.str _) (.cons (.str _) (.cons (.int _ _) (.cons (.bool _) (.cons (.int _ _) (.cons (.int _ _) (.cons (.str _) .nil)))))))))))

/-- tableAt -/
theorem Tryz.tableAt (h : SchAt w n tb cap cb kb F) (h6 : n ≤ 6) {g : Nat} (hg : g < n) : Calls Tryz.prog 16 #[.agg #[.slice (some ⟨tb, 0, none⟩) n cap], .string (nameL g)] w fun e w' => e = .returned (.int .i64 g) ∧ Below w.heap.size w w' := by
  cases n with
  | zero => cases hg
  | succ m =>
    have hc : at16 16 (m + 1) g = true := below_iff (below_iff all16 m (by omega)) g hg
    unfold at16 at hc
    have hro := sch_ro (Fa := fun _ => anyA) (le := []) (be := []) h (by rw [List.append_nil]; exact h.nodup) (fun j hj => .any _ (h.any j hj)) .nil
    rw [← List.append_nil (baseA (m + 1) fun _ => anyA)] at hc
    exact gives_calls hc hro (.cons (sArg_rel h) (.cons (.str _) .nil))

/-- TableAt -/
theorem Tryz.refTableAt (h : SchAt w n tb cap cb kb F) (h6 : n ≤ 6) {g : Nat} (hg : g < n) : Calls Tryz.prog 20 #[.agg #[.slice (some ⟨tb, 0, none⟩) n cap], .string (nameL g)] w fun e w' => e = .returned (.int .i64 g) ∧ Below w.heap.size w w' := by
  cases n with
  | zero => cases hg
  | succ m =>
    have hc : at16 20 (m + 1) g = true := below_iff (below_iff all20 m (by omega)) g hg
    unfold at16 at hc
    have hro := sch_ro (Fa := fun _ => anyA) (le := []) (be := []) h (by rw [List.append_nil]; exact h.nodup) (fun j hj => .any _ (h.any j hj)) .nil
    rw [← List.append_nil (baseA (m + 1) fun _ => anyA)] at hc
    exact gives_calls hc hro (.cons (sArg_rel h) (.cons (.str _) .nil))

end
end Go.Ke
