/- ValueChecks, the card: value.Check is as specified for all kinds and values. No condition but that the listed variables of Go's library lie as the program's text lays them. -/
import Derived.Test.YtkpligcifakmjaaGreatDoorVc
import Derived.Lib.SmallJoins
namespace Go.Proofs.YtkpligcifakmjaaGreatDoor.valueChecks
open Go.ChangeShapes Go.WideShapes Go.ChangeAt Go.RowKit Go.Joins

theorem own : ownKnob Tryz.prog.godebug = none := by kernel_rfl
theorem laidOut : laidOutB Tryz.prog = true := by kernel_rfl

set_option maxRecDepth 100000 in
/-- What the row's list gives: the table of white space. -/
theorem space_of {W : World} {l : List (String × DataW Unit)} (h : laidMet Tryz.prog l W) (hm : ("strings.asciiSpace", Lib.tabData .u8 Lib.asciiSpaceTab) ∈ l) : Lib.TabIs Tryz.prog W "strings.asciiSpace" .u8 Lib.asciiSpaceTab := by
  obtain ⟨ps, hv, _, _⟩ := h
  have key : ∀ {l : List (String × DataW Unit)} {ps : List MemPlace}, DataW.LaidVars Tryz.prog W l ps → ("strings.asciiSpace", Lib.tabData .u8 Lib.asciiSpaceTab) ∈ l → Lib.TabIs Tryz.prog W "strings.asciiSpace" .u8 Lib.asciiSpaceTab := by
    intro l
    induction l with
    | nil => intro ps _ hm; cases hm
    | cons x l ih =>
      intro ps hv hm
      obtain ⟨nm, d⟩ := x
      obtain ⟨g, t, cs, fuel, p, q, hg, ht, hvar, hd, hrest, _⟩ := hv
      rcases List.mem_cons.mp hm with e | hm
      · cases e
        have hg' : Tryz.prog.globalNamed "strings.asciiSpace" = some 1 := by kernel_rfl
        obtain rfl := Option.some.inj (hg'.symm.trans hg)
        have ht' : (Tryz.prog.globals[1]?).map (·.type) = some 199 := by kernel_rfl
        obtain rfl := Option.some.inj (ht'.symm.trans ht)
        unfold Lib.TabIs
        rw [hvar, ← Lib.cells_of_tab Tryz.underlying199 Tryz.underlying5 (by kernel_rfl) (by kernel_rfl) hd]
      · exact ih hrest hm
  exact key hv hm

theorem post_of_below {H : Type} {enc : TypeId × Value → H} {P : Program} {f : Func} {s : ChangeSpec} {apart fresh handsOn : Bool} {W W' : World} {args : Array Value} {v : Value} {ds gs : List (DataW H)} {before pa pv : List MemPlace}
    (hW : DataW.Whole enc P f.params.toList s.vars apart W args.toList ds gs before) (hb : Below W.heap.size W W')
    (hres : ∀ (b : Nat) (sp : Nat → Bool) (hd : Bool), DataW.TrodAll enc P W' b sp hd f.resultTypes.toList (v.resultList f.resultTypes.size) (s.fn H (ds ++ gs)).results [])
    (hargs : DataW.TrodAll enc P W' 0 (fun b => decide (b < W.heap.size)) true f.params.toList args.toList (s.fn H (ds ++ gs)).args pa)
    (hvars : DataW.TrodVars enc P W' (fun b => decide (b < W.heap.size)) s.vars (s.fn H (ds ++ gs)).vars pv) : s.post enc P f apart fresh handsOn false W args v W' :=
  ⟨ds, gs, before, [], pa, pv, hW, hres _ _ _, hargs, hvars, hb.frame _, fun h => by cases h⟩

set_option maxRecDepth 100000 in
theorem lifted (os : Os) (started : os.Started) (H : Type) (enc : TypeId × Value → H) :
    ReturnsInHanded {} Tryz.checked os 3 .any (fun w args => (Rows.valueChecksSpec.pre enc Tryz.prog Tryz.f3 Rows.valueChecksRow.domain false w args ∧ laidMetH Tryz.prog Rows.valueChecksRow.laid w) ∧ sizedMet enc Tryz.prog Tryz.f3 (OpenSpec.ofChange Rows.valueChecksSpec) false w args)
      (Rows.valueChecksSpec.post enc Tryz.prog Tryz.f3 false true false false) := by
  refine returnsInHanded_of_change_and (C := Tryz.checked) (X := fun w _ => laidMetH Tryz.prog Rows.valueChecksRow.laid w) (fun _ _ _ hh h => h.of_heap hh) own started (by kernel_rfl) Tryz.func3
    (ChangeSpec.witness_shaped (enc := enc) (C := Tryz.checked) (os := os) (X := fun w _ => laidMetH Tryz.prog Rows.valueChecksRow.laid w) false (World.laidAll Tryz.prog os Rows.valueChecksRow.laid) #[.int .i64 0, .agg #[.int .i64 0, .int .i64 0, .string ⟨#[]⟩]] 8 (World.laidAll_os _ _ _)
      (World.shaped_of_ZipB (by kernel_rfl) (by kernel_rfl)) (by kernel_rfl) (by kernel_rfl) (by kernel_rfl)
      (by rw [MakeChecks.laidMetH_plain _ _ _ (by kernel_rfl)]; exact laidMet_laidAll _ (by kernel_rfl) (by kernel_rfl))) ?_
  intro W base args ds gs before hval0 hW hc _ hL _
  have hval : ∀ (j : Nat) t v, Tryz.f3.params[j]? = some t → args[j]? = some v → Value.okWide Tryz.prog W .any base t v := hval0
  have hW' := hW
  obtain ⟨p, q, hA0, hV, rfl, _, _⟩ := hW
  have hA : DataW.TrodAll enc Tryz.prog W 0 (fun _ => true) true Tryz.f3.params.toList args.toList ds p := hA0
  rw [Tryz.params3] at hA hval
  obtain ⟨v0, v1, d0, d1, p0, p1, rfl, rfl, rfl, h0, h1⟩ := trodAll_two hA
  obtain ⟨rfl, rfl⟩ := trodVars_none hV
  obtain ⟨kind, rfl, rfl, rfl, wk⟩ := open_int Tryz.underlying3 (hval 0 3 v0 rfl rfl) h0
  obtain ⟨c0, c1, c2, y0, y1, y2, m, rfl, rfl, rfl, hy0, hy1, hy2⟩ := open_agg3 Tryz.underlying23 (by kernel_rfl) (by kernel_rfl) (hval 1 23 v1 rfl rfl) h1
  obtain ⟨k, e0, x0, w0⟩ := DataW.trod_int Tryz.underlying3 hy0
  obtain ⟨n, e1, x1, w1⟩ := DataW.trod_int Tryz.underlying3 hy1
  obtain ⟨s, e2, x2, ws⟩ := DataW.trod_string Tryz.underlying9 hy2
  cases e0
  cases e1
  cases e2
  subst x0 x1 x2
  clear hA0 hval0
  rw [MakeChecks.laidMetH_plain _ _ _ (by kernel_rfl)] at hL
  have htab := space_of hL (List.mem_of_getElem? (i := 7) (by kernel_rfl))
  refine (Tryz.law kind k n s (by unfold maxLen at ws; omega) W htab).mono fun e W' ⟨he, hb⟩ => ?_
  subst he
  refine ⟨_, rfl, post_of_below (pa := [] ++ ([] ++ ([] ++ []))) (pv := []) hW' hb (fun _ _ _ => trodAll_mk1 (shut_bool Tryz.underlying4 _)) ?_ rfl⟩
  exact trodAll_mk2 (shut_int Tryz.underlying3 wk) (Below.trod laidOut (by kernel_rfl) (of_decide_eq_true (by kernel_rfl)) h1 hb (fun x hx => by simp at hx))

end Go.Proofs.YtkpligcifakmjaaGreatDoor.valueChecks
