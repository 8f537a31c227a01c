/- The schema of the law in the world: foreign and table, by Ke. No condition. -/
import Derived.Test.YtaikipdjknhjdaaGreatDoorSch
import Derived.Test.YtaikipdjknhjdaaGreatDoorRunsB
import Derived.Test.YtaikipdjknhjdaaGreatDoorRunsC
namespace Go.Ke
open Go.Proofs
open Go.RowKit (Below)

theorem all33 {n i g : Nat} (hn : n ≤ 6) (hi : i < n) (hg : g < n) : at33 n i g = true := by
  cases n with
  | zero => cases hi
  | succ m =>
    by_cases h : m < 4
    · exact below_iff (below_iff (below_iff all33a m h) i hi) g hg
    · by_cases h4 : m = 4
      · subst h4
        exact below_iff (below_iff all33b i hi) g hg
      · have : m = 5 := by omega
        subst this
        exact below_iff (below_iff all33c i hi) g hg

theorem all29 {n i nf : Nat} (hn : n ≤ 6) (hi : i < n) (hf : nf < 3) : at29 n i nf = true := by
  cases n with
  | zero => cases hi
  | succ m =>
    by_cases h : m < 3
    · exact below_iff (below_iff (below_iff all29a m h) i hi) nf hf
    · by_cases h4 : m = 3
      · subst h4
        exact below_iff (below_iff all29b i hi) nf hf
      · by_cases h5 : m = 4
        · subst h5
          exact below_iff (below_iff all29c i hi) nf hf
        · have : m = 5 := by omega
          subst this
          by_cases h6 : i < 3
          · exact below_iff (below_iff all29d i h6) nf hf
          · obtain ⟨j, rfl⟩ : ∃ j, i = j + 3 := ⟨i - 3, by omega⟩
            exact below_iff (below_iff all29e j (by omega)) nf hf

section
variable {w : World} {n tb cap : Nat} {cb kb : Nat → Nat} {F : Nat → Value}

/-- foreign -/
theorem Tryz.foreign (h : SchAt w n tb cap cb kb F) (h6 : n ≤ 6) {i g : Nat} (hi : i < n) (hg : g < n) {xb : Nat} {fz : Nat × Nat} (hx : w.heap[xb]? = some (.cells #[.string xL] 9 fz)) (hn : xb ∉ bsOf n tb cb kb) {nm : Value} (ha : anyV nm = true) :
    Calls Tryz.prog 33 #[.agg #[.slice (some ⟨tb, 0, none⟩) n cap], .agg (tabV cb kb F i).toArray, .agg #[nm, .slice (some ⟨xb, 0, none⟩) 1 1, .string (nameL g)]] w fun e w' => e = .returned (.int .i64 0) ∧ Below w.heap.size w w' := by
  have hc : at33 n i g = true := all33 h6 hi hg
  unfold at33 at hc
  have hnd : (bsOf n tb cb kb ++ [xb]).Nodup := by
    refine List.nodup_append.mpr ⟨h.nodup, by simp, fun a ha' b hb e => ?_⟩
    rw [List.mem_singleton] at hb
    subst hb
    exact hn (e ▸ ha')
  have hro := sch_ro (Fa := fun _ => anyA) (le := [rowA 9 [.string xL]]) (be := [xb]) h hnd (fun j hj => .any _ (h.any j hj)) (.cons (rowOk_of (l' := [.string xL]) (rest := []) hx (.cons (.str _) .nil)) .nil)
  have hx0 : roLoc Tryz.prog (baseA n (fun _ => anyA) ++ [rowA 9 [.string xL]]) (bsOf n tb cb kb ++ [xb]) w (2 * n + 1) = some ⟨xb, 0, 1, Tryz.prog.cellsOf 9⟩ := by
    refine roLoc_row (x := rowA 9 [.string xL]) ?_ ?_ hx
    · rw [List.getElem?_append_right (by rw [baseA_len]; omega), baseA_len, Nat.sub_self]; rfl
    · have hl : (bsOf n tb cb kb).length = 2 * n + 1 := by unfold bsOf; rw [List.length_cons, pair_len cb kb]
      rw [List.getElem?_append_right (by omega), hl, Nat.sub_self]; rfl
  have ht := tab_rel (Fa := fun _ => anyA) (le := [rowA 9 [.string xL]]) (be := [xb]) h hi (.any _ (h.any i hi))
  have h1 : VRel (roLoc Tryz.prog (baseA n (fun _ => anyA) ++ [rowA 9 [.string xL]]) (bsOf n tb cb kb ++ [xb]) w) (.agg (tabCells i anyA).toArray) (.agg (tabV cb kb F i).toArray) := by
    obtain ⟨g1, g2⟩ := ht.to_array
    exact .agg _ _ g1 g2
  have h2 : LRel (roLoc Tryz.prog (baseA n (fun _ => anyA) ++ [rowA 9 [.string xL]]) (bsOf n tb cb kb ++ [xb]) w) [anyA, .slice (some ⟨2 * n + 1, 0, none⟩) 1 1, .string (nameL g)] [nm, .slice (some ⟨xb, 0, none⟩) 1 1, .string (nameL g)] :=
    .cons (.any _ ha) (.cons (slice_rel' hx0 (Nat.le_refl _) (by decide)) (.cons (.str _) .nil))
  have h3 : VRel (roLoc Tryz.prog (baseA n (fun _ => anyA) ++ [rowA 9 [.string xL]]) (bsOf n tb cb kb ++ [xb]) w) (.agg #[anyA, .slice (some ⟨2 * n + 1, 0, none⟩) 1 1, .string (nameL g)]) (.agg #[nm, .slice (some ⟨xb, 0, none⟩) 1 1, .string (nameL g)]) := by
    obtain ⟨g1, g2⟩ := h2.to_array
    exact .agg _ _ g1 g2
  exact gives_calls hc hro (.cons (sArg_rel h) (.cons h1 (.cons h3 .nil)))

/-- The foreign keys of a table. -/
def forV (xb : Nat → Nat) (tg : Nat → ByteArray) (k : Nat) : List Value := [.string ⟨#[UInt8.ofNat (102 + k)]⟩, .slice (some ⟨xb k, 0, none⟩) 1 1, .string (tg k)]

structure ForAt (w : World) (nf fb cap : Nat) (xb : Nat → Nat) (tg : Nat → ByteArray) : Prop where
  tab : ∃ rest fz, w.heap[fb]? = some (.cells (upTo (forV xb tg) nf ++ rest).toArray 42 fz) ∧ cap * 3 ≤ (upTo (forV xb tg) nf ++ rest).length
  le : nf ≤ cap
  cols : ∀ k, k < nf → ∃ fz, w.heap[xb k]? = some (.cells #[.string xL] 9 fz)

theorem single_len {α : Type} (a : Nat → α) : ∀ n, (upTo (fun j => [a j]) n).length = n := by
  intro n
  induction n with
  | zero => rfl
  | succ n ih => rw [upTo_succ, List.length_append, ih]; rfl

theorem single_get {α : Type} (a : Nat → α) : ∀ {n j : Nat}, j < n → (upTo (fun j => [a j]) n)[j]? = some (a j) := by
  intro n
  induction n with
  | zero => intro j h; cases h
  | succ n ih =>
    intro j h
    rw [upTo_succ]
    by_cases e : j = n
    · subst e
      rw [List.getElem?_append_right (by rw [single_len]; omega), single_len, Nat.sub_self]
      rfl
    · rw [List.getElem?_append_left (by rw [single_len]; omega)]
      exact ih (by omega)

theorem sz42 : Tryz.prog.cellsOf 42 = 3 := by kernel_rfl

/-- table, of no foreign key -/
theorem Tryz.table0 (h : SchAt w n tb cap cb kb F) (h6 : n ≤ 6) {i : Nat} (hi : i < n) (hF : F i = .slice none 0 0) : Calls Tryz.prog 29 #[.agg #[.slice (some ⟨tb, 0, none⟩) n cap], .int .i64 i] w fun e w' => e = .returned (.int .i64 0) ∧ Below w.heap.size w w' := by
  have hc : at29 n i 0 = true := all29 h6 hi (by decide)
  unfold at29 at hc
  have hro := sch_ro (Fa := fun j => @Bool.rec (fun _ => Value) anyA (forF n 0) (Nat.beq j i)) (le := []) (be := []) h (by rw [List.append_nil]; exact h.nodup) (fun j hj => by
    cases hb : Nat.beq j i with
    | false => exact .any _ (h.any j hj)
    | true =>
      have := Nat.eq_of_beq_eq_true hb
      subst this
      rw [hF]
      exact .snil) .nil
  exact gives_calls hc hro (.cons (sArg_rel h) (.cons (.int _ _) .nil))

/-- table -/
theorem Tryz.table (h : SchAt w n tb cap cb kb F) (h6 : n ≤ 6) {i nf : Nat} (hi : i < n) (hf : nf < 2) {fb fcap : Nat} {xb : Nat → Nat} {tg : Nat → ByteArray} (hA : ForAt w (nf + 1) fb fcap xb tg) (hF : F i = .slice (some ⟨fb, 0, none⟩) (nf + 1) fcap)
    (hnd : (bsOf n tb cb kb ++ fb :: upTo (fun k => [xb k]) (nf + 1)).Nodup) : Calls Tryz.prog 29 #[.agg #[.slice (some ⟨tb, 0, none⟩) n cap], .int .i64 i] w fun e w' => e = .returned (.int .i64 0) ∧ Below w.heap.size w w' := by
  have hc : at29 n i (nf + 1) = true := all29 h6 hi (by omega)
  unfold at29 at hc
  have hbl : (bsOf n tb cb kb).length = 2 * n + 1 := by unfold bsOf; rw [List.length_cons, pair_len cb kb]
  have hk : ∀ (Fa : Nat → Value) k, k < nf + 1 → roLoc Tryz.prog (baseA n Fa ++ forA n (nf + 1)) (bsOf n tb cb kb ++ fb :: upTo (fun k => [xb k]) (nf + 1)) w (2 * n + 2 + k) = some ⟨xb k, 0, 1, Tryz.prog.cellsOf 9⟩ := fun Fa k hk => by
    obtain ⟨fz, hx⟩ := hA.cols k hk
    refine roLoc_row (x := rowA 9 [.string xL]) ?_ ?_ hx
    · rw [List.getElem?_append_right (by rw [baseA_len]; omega), baseA_len, show 2 * n + 2 + k - (2 * n + 1) = k + 1 by omega]
      exact single_get (fun _ => rowA 9 [.string xL]) hk
    · rw [List.getElem?_append_right (by omega), hbl, show 2 * n + 2 + k - (2 * n + 1) = k + 1 by omega]
      exact single_get xb hk
  obtain ⟨rest, fz, hfb, hcap⟩ := hA.tab
  have h0 : ∀ (Fa : Nat → Value), roLoc Tryz.prog (baseA n Fa ++ forA n (nf + 1)) (bsOf n tb cb kb ++ fb :: upTo (fun k => [xb k]) (nf + 1)) w (2 * n + 1) = some ⟨fb, 0, (upTo (forV xb tg) (nf + 1) ++ rest).length, 3⟩ := fun Fa => by
    have := roLoc_row (P := Tryz.prog) (l := baseA n Fa ++ forA n (nf + 1)) (bs := bsOf n tb cb kb ++ fb :: upTo (fun k => [xb k]) (nf + 1)) (k := 2 * n + 1) (x := rowA 42 (upTo (forCells n) (nf + 1))) (by
      rw [List.getElem?_append_right (by rw [baseA_len]; omega), baseA_len, Nat.sub_self]; rfl) (by
      rw [List.getElem?_append_right (by omega), hbl, Nat.sub_self]; rfl) hfb
    rw [this]
    show some (Pl.mk fb 0 _ (Tryz.prog.cellsOf 42)) = _
    rw [sz42, List.size_toArray]
  have hro := sch_ro (Fa := fun j => @Bool.rec (fun _ => Value) anyA (forF n (nf + 1)) (Nat.beq j i)) (le := forA n (nf + 1)) (be := fb :: upTo (fun k => [xb k]) (nf + 1)) h hnd (fun j hj => by
    cases hb : Nat.beq j i with
    | false => exact .any _ (h.any j hj)
    | true =>
      have := Nat.eq_of_beq_eq_true hb
      subst this
      rw [hF]
      exact slice_rel (h0 _) hA.le hcap) (.cons (rowOk_of hfb (F2.upTo fun k hk' => .cons (.str _) (.cons (slice_rel' (hk _ k hk') (Nat.le_refl _) (by decide)) (.cons (.any _ rfl) .nil)))) (F2.upTo fun k hk' => by
        obtain ⟨fz', hx⟩ := hA.cols k hk'
        exact .cons (rowOk_of (l' := [.string xL]) (rest := []) hx (.cons (.str _) .nil)) .nil))
  exact gives_calls hc hro (.cons (sArg_rel h) (.cons (.int _ _) .nil))

end
end Go.Ke
