/- ValueLaws, the card: Or and And are bound by Not, division and remainder give the number again. No condition but that the listed variables of Go's library lie as the program's text lays them. -/
import Derived.Test.YtmnlcldhhlkpeaaGreatDoorLaw
import Derived.Test.YtmnlcldhhlkpeaaGreatDoorGate
import Derived.Test.YtmnlcldhhlkpeaaGreatDoorCards
import Derived.Lib.SmallJoins
import Derived.Lib.LaidTab
import Derived.ProofKit
import Derived.OpenShut
import Derived.LaidMore
import Derived.Lay
import Derived.SevenTiedAt
namespace Go.Proofs.YtmnlcldhhlkpeaaGreatDoor.keeps
open Go.ChangeShapes Go.WideShapes Go.ChangeAt Go.RowKit Go.Joins

theorem own : ownKnob Tryz.prog.godebug = none := by kernel_rfl
theorem laidOut : laidOutB Tryz.prog = true := by kernel_rfl

set_option maxRecDepth 100000 in
/-- What a row's list gives: a table. -/
theorem tab_of {W : World} {l : List (String × DataW Unit)} {nm : String} {g : Nat} {t e : TypeId} {n : Nat} {k : IntKind} {zs : List Int} (h : laidMet Tryz.prog l W) (hm : (nm, Lib.tabData k zs) ∈ l)
    (hg' : Tryz.prog.globalNamed nm = some g) (ht' : (Tryz.prog.globals[g]?).map (·.type) = some t) (hu : Tryz.prog.underlying t = some (.array n e)) (he : Tryz.prog.underlying e = some (.int k))
    (hce : Tryz.prog.cellsOf e = 1) (hct : Tryz.prog.cellsOf t = n) : Lib.TabIs Tryz.prog W nm k zs := by
  obtain ⟨ps, hv, _, _⟩ := h
  have key : ∀ {l : List (String × DataW Unit)} {ps : List MemPlace}, DataW.LaidVars Tryz.prog W l ps → (nm, Lib.tabData k zs) ∈ l → Lib.TabIs Tryz.prog W nm k zs := by
    intro l
    induction l with
    | nil => intro ps _ hm; cases hm
    | cons x l ih =>
      intro ps hv hm
      obtain ⟨nm', d⟩ := x
      obtain ⟨g2, t2, cs, fuel, p, q, hg, ht, hvar, hd, hrest, _⟩ := hv
      rcases List.mem_cons.mp hm with e | hm
      · cases e
        obtain rfl := Option.some.inj (hg'.symm.trans hg)
        obtain rfl := Option.some.inj (ht'.symm.trans ht)
        unfold Lib.TabIs
        rw [hvar, ← Lib.cells_of_tab hu he hce hct hd]
      · exact ih hrest hm
  exact key hv hm

theorem space_of {W : World} {l : List (String × DataW Unit)} (h : laidMet Tryz.prog l W) (hm : ("strings.asciiSpace", Lib.tabData .u8 Lib.asciiSpaceTab) ∈ l) : Lib.TabIs Tryz.prog W "strings.asciiSpace" .u8 Lib.asciiSpaceTab :=
  tab_of (g := 6) (t := 421) h hm (by kernel_rfl) (by kernel_rfl) Tryz.underlying421 Tryz.underlying5 (by kernel_rfl) (by kernel_rfl)

theorem pow_of {W : World} {l : List (String × DataW Unit)} (h : laidMet Tryz.prog l W) (hm : ("internal/strconv.uint64pow10", Lib.tabData .u64 Lib.pow10Tab) ∈ l) : Lib.TabIs Tryz.prog W "internal/strconv.uint64pow10" .u64 Lib.pow10Tab :=
  tab_of (g := 3) (t := 418) h hm (by kernel_rfl) (by kernel_rfl) Tryz.underlying418 Tryz.underlying78 (by kernel_rfl) (by kernel_rfl)

theorem post_of_below {H : Type} {enc : TypeId × Value → H} {P : Program} {f : Func} {s : ChangeSpec} {apart fresh handsOn : Bool} {W W' : World} {args : Array Value} {v : Value} {ds gs : List (DataW H)} {before pa pv : List MemPlace}
    (hW : DataW.Whole enc P f.params.toList s.vars apart W args.toList ds gs before) (hb : Below W.heap.size W W')
    (hres : ∀ (b : Nat) (sp : Nat → Bool) (hd : Bool), DataW.TrodAll enc P W' b sp hd f.resultTypes.toList (v.resultList f.resultTypes.size) (s.fn H (ds ++ gs)).results [])
    (hargs : DataW.TrodAll enc P W' 0 (fun b => decide (b < W.heap.size)) true f.params.toList args.toList (s.fn H (ds ++ gs)).args pa)
    (hvars : DataW.TrodVars enc P W' (fun b => decide (b < W.heap.size)) s.vars (s.fn H (ds ++ gs)).vars pv) : s.post enc P f apart fresh handsOn false W args v W' :=
  ⟨ds, gs, before, [], pa, pv, hW, hres _ _ _, hargs, hvars, hb.frame _, fun h => by cases h⟩

set_option maxRecDepth 100000 in
/-- A value that a parameter holds. -/
theorem val_of {H : Type} {enc : TypeId × Value → H} {W : World} {base b : Nat} {sp : Nat → Bool} {hd : Bool} {v : Value} {d : DataW H} {p : List MemPlace} (hv : Value.okWide Tryz.prog W .any base 23 v)
    (h : DataW.Trod enc Tryz.prog W b sp hd 23 v d p) : ∃ x : Val, v = x.v ∧ x.s.size ≤ 9223372036854775807 ∧ p = [] := by
  obtain ⟨c0, c1, c2, y0, y1, y2, m, rfl, rfl, rfl, hy0, hy1, hy2⟩ := open_agg3 Tryz.underlying23 (by kernel_rfl) (by kernel_rfl) hv h
  obtain ⟨k, e0, x0, w0⟩ := DataW.trod_int Tryz.underlying3 hy0
  obtain ⟨n, e1, x1, w1⟩ := DataW.trod_int Tryz.underlying3 hy1
  obtain ⟨s, e2, x2, ws⟩ := DataW.trod_string Tryz.underlying9 hy2
  cases e0
  cases e1
  cases e2
  subst x0 x1 x2
  exact ⟨⟨k, n, s⟩, rfl, by unfold maxLen at ws; show s.size ≤ _; omega, rfl⟩

end Go.Proofs.YtmnlcldhhlkpeaaGreatDoor.keeps
namespace Go.Proofs.YtmnlcldhhlkpeaaGreatDoor.valueLaws
open Go.ChangeShapes Go.WideShapes Go.ChangeAt Go.RowKit Go.Joins keeps

set_option maxRecDepth 100000 in
theorem lifted (os : Os) (started : os.Started) (H : Type) (enc : TypeId × Value → H) :
    ReturnsInHanded {} Tryz.checked os 3 .any (fun w args => (Rows.valueLawsSpec.pre enc Tryz.prog Tryz.f3 Rows.valueLawsRow.domain false w args ∧ laidMetH Tryz.prog Rows.valueLawsRow.laid w) ∧ sizedMet enc Tryz.prog Tryz.f3 (OpenSpec.ofChange Rows.valueLawsSpec) false w args)
      (Rows.valueLawsSpec.post enc Tryz.prog Tryz.f3 false true false false) := by
  refine returnsInHanded_of_change_and (C := Tryz.checked) (X := fun w _ => laidMetH Tryz.prog Rows.valueLawsRow.laid w) (fun _ _ _ hh h => h.of_heap hh) own started (by kernel_rfl) Tryz.func3
    (ChangeSpec.witness_shaped (enc := enc) (C := Tryz.checked) (os := os) (X := fun w _ => laidMetH Tryz.prog Rows.valueLawsRow.laid w) false (World.laidAll Tryz.prog os Rows.valueLawsRow.laid) #[.agg #[.int .i64 0, .int .i64 0, .string ⟨#[]⟩], .agg #[.int .i64 0, .int .i64 0, .string ⟨#[]⟩]] 8 (World.laidAll_os _ _ _)
      (World.shaped_of_ZipB (by kernel_rfl) (by kernel_rfl)) (by kernel_rfl) (by kernel_rfl) (by kernel_rfl)
      (by rw [MakeChecks.laidMetH_plain _ _ _ (by kernel_rfl)]; exact laidMet_laidAll _ (by kernel_rfl) (by kernel_rfl))) ?_
  intro W base args ds gs before hval0 hW hc _ hL _
  have hval : ∀ (j : Nat) t v, Tryz.f3.params[j]? = some t → args[j]? = some v → Value.okWide Tryz.prog W .any base t v := hval0
  have hW' := hW
  obtain ⟨p, q, hA0, hV, rfl, _, _⟩ := hW
  have hA : DataW.TrodAll enc Tryz.prog W 0 (fun _ => true) true Tryz.f3.params.toList args.toList ds p := hA0
  rw [Tryz.params3] at hA hval
  obtain ⟨v0, v1, d0, d1, p0, p1, rfl, rfl, rfl, h0, h1⟩ := trodAll_two hA
  obtain ⟨rfl, rfl⟩ := trodVars_none hV
  obtain ⟨a, rfl, la, rfl⟩ := val_of (hval 0 23 v0 rfl rfl) h0
  obtain ⟨b, rfl, lb, rfl⟩ := val_of (hval 1 23 v1 rfl rfl) h1
  rw [MakeChecks.laidMetH_plain _ _ _ (by kernel_rfl)] at hL
  have htab := space_of hL (List.mem_of_getElem? (i := 2) (by kernel_rfl))
  have hpow := pow_of hL (List.mem_of_getElem? (i := 6) (by kernel_rfl))
  refine (Tryz.lawV a b la lb W fun W1 hb1 => Tryz.stands_calls W1 W htab hpow hb1).mono fun e W' ⟨he, hbw⟩ => ?_
  subst he
  refine ⟨_, rfl, post_of_below (pa := []) (pv := []) hW' hbw (fun _ _ _ => trodAll_mk1 (shut_bool Tryz.underlying4 _)) ?_ rfl⟩
  exact trodAll_mk2 (p := []) (p' := []) (Below.trod laidOut (by kernel_rfl) (of_decide_eq_true (by kernel_rfl)) h0 hbw (fun x hx => by simp at hx)) (Below.trod laidOut (by kernel_rfl) (of_decide_eq_true (by kernel_rfl)) h1 hbw (fun x hx => by simp at hx))

end Go.Proofs.YtmnlcldhhlkpeaaGreatDoor.valueLaws
