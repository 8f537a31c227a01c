/- What a card of this seat wants: an argument that is a list of numbers, the library's variables, the wrap. No condition. -/
import Derived.Test.YtmnlcldhhlkpeaaGreatDoorLit
import Derived.Test.YtmnlcldhhlkpeaaGreatDoorStrm
import Derived.Test.YtmnlcldhhlkpeaaGreatDoorCards
import Derived.Lib.SmallJoins
import Derived.Lib.LaidTab
import Derived.ChangeSlices
import Derived.ProofKit
import Derived.OpenShut
import Derived.LaidMore
import Derived.Lay
import Derived.SevenTiedAt
import Derived.HandedShaped
import Derived.LaidLaws
import Derived.Shelf.Vars
import Derived.Deep.Slices
import Derived.Deep.Fields
namespace Go.Proofs
open Go.ChangeShapes Go.WideShapes Go.Deep Go.RowKit

theorem add_none (ab ao n : Nat) : (⟨ab, ao, none⟩ : Addr).add n = ⟨ab, ao + n, none⟩ := by
  unfold Addr.add
  split
  · rename_i h; subst h; rfl
  · rfl

theorem cell_lt {W : World} {a : Addr} {v : Value} (h : W.cell? a = some v) : a.block < W.heap.size ∧ a.spot = none := by
  unfold World.cell? at h
  split at h
  · rename_i hc
    have := (Array.getElem?_eq_some_iff.1 hc).1
    split at h
    · cases h
    · rename_i hs
      exact ⟨this, by simpa using hs⟩
  · cases h

set_option maxRecDepth 100000 in
theorem intsAt_of {H : Type} {enc : TypeId × Value → H} {W : World} {r : Reach} {b0 : Nat} {held : Bool} {v : Value} {d : DataW H} {p : List MemPlace} (hv : Value.okWide Tryz.prog W r b0 28 v) (h : DataW.Trod enc Tryz.prog W 0 (fun _ => true) held 28 v d p) :
    ∃ ad, ∃ l : List Int, ∃ cap, v = .slice ad l.length cap ∧ IntsAt W W.heap.size ad l ∧ l.length ≤ 9223372036854775807 := by
  obtain ⟨a, len, cap, rfl⟩ := okWide_slice Tryz.underlying28 hv
  obtain ⟨fuel, hf⟩ := h
  rcases open_ints Tryz.underlying28 Tryz.underlying3 (by kernel_rfl) hf with ⟨h0, _⟩ | ⟨a', len', cap', zs, hcs, hb, hl, hm, hzl, hx, hc, hw⟩
  · simp only [Value.cells, List.cons.injEq, Value.slice.injEq, and_true] at h0
    obtain ⟨rfl, rfl, rfl⟩ := h0
    exact ⟨none, [], 0, rfl, fun i hi => by simp at hi, by simp⟩
  · simp only [Value.cells, List.cons.injEq, Value.slice.injEq, and_true] at hcs
    obtain ⟨rfl, rfl, rfl⟩ := hcs
    simp only [if_true] at hzl
    have hln : (zs.take len).length = len := by simp; omega
    refine ⟨some a', zs.take len, cap, by rw [hln], ?_, by rw [hln]; unfold maxLen at hm; omega⟩
    intro i hi
    rw [hln] at hi
    have z0 := hc 0 (by omega)
    have ci := hc i (by omega)
    have hwi := hw zs[i] (List.getElem_mem (by omega))
    obtain ⟨ab, ao, asp⟩ := a'
    have hs := cell_lt z0
    have hs2 : asp = none := hs.2
    subst hs2
    rw [add_none] at ci
    have e : zs.getD i 0 = zs[i] := by simp [List.getD, show i < zs.length by omega]
    rw [e] at ci
    refine ⟨ab, ao, rfl, hs.1, ?_, ?_⟩
    · simpa using ci
    · simp only [List.getElem_take]
      unfold Lit.wf at hwi
      simp only [Bool.and_eq_true, decide_eq_true_eq] at hwi
      have e1 : IntKind.i64.min = -9223372036854775808 := by decide
      have e2 : IntKind.i64.max = 9223372036854775807 := by decide
      rw [e1, e2] at hwi
      exact hwi

end Go.Proofs
namespace Go.Proofs.YtmnlcldhhlkpeaaGreatDoor.backs
open Go.ChangeShapes Go.WideShapes Go.ChangeAt Go.RowKit Go.Joins

theorem own : ownKnob Tryz.prog.godebug = none := by kernel_rfl
theorem laidOut : laidOutB Tryz.prog = true := by kernel_rfl

set_option maxRecDepth 100000 in
/-- What a row's list gives: a table. -/
theorem tab_of {W : World} {l : List (String × DataW Unit)} {nm : String} {g : Nat} {t e : TypeId} {n : Nat} {k : IntKind} {zs : List Int} (h : laidMet Tryz.prog l W) (hm : (nm, Lib.tabData k zs) ∈ l)
    (hg' : Tryz.prog.globalNamed nm = some g) (ht' : (Tryz.prog.globals[g]?).map (·.type) = some t) (hu : Tryz.prog.underlying t = some (.array n e)) (he : Tryz.prog.underlying e = some (.int k))
    (hce : Tryz.prog.cellsOf e = 1) (hct : Tryz.prog.cellsOf t = n) : Lib.TabIs Tryz.prog W nm k zs := by
  obtain ⟨ps, hv, _, _⟩ := h
  have key : ∀ {l : List (String × DataW Unit)} {ps : List MemPlace}, DataW.LaidVars Tryz.prog W l ps → (nm, Lib.tabData k zs) ∈ l → Lib.TabIs Tryz.prog W nm k zs := by
    intro l
    induction l with
    | nil => intro ps _ hm; cases hm
    | cons x l ih =>
      intro ps hv hm
      obtain ⟨nm', d⟩ := x
      obtain ⟨g2, t2, cs, fuel, p, q, hg, ht, hvar, hd, hrest, _⟩ := hv
      rcases List.mem_cons.mp hm with e | hm
      · cases e
        obtain rfl := Option.some.inj (hg'.symm.trans hg)
        obtain rfl := Option.some.inj (ht'.symm.trans ht)
        unfold Lib.TabIs
        rw [hvar, ← Lib.cells_of_tab hu he hce hct hd]
      · exact ih hrest hm
  exact key hv hm

theorem space_of {W : World} {l : List (String × DataW Unit)} (h : laidMet Tryz.prog l W) (hm : ("strings.asciiSpace", Lib.tabData .u8 Lib.asciiSpaceTab) ∈ l) : Lib.TabIs Tryz.prog W "strings.asciiSpace" .u8 Lib.asciiSpaceTab :=
  tab_of (g := 6) (t := 421) h hm (by kernel_rfl) (by kernel_rfl) Tryz.underlying421 Tryz.underlying5 (by kernel_rfl) (by kernel_rfl)

theorem pow_of {W : World} {l : List (String × DataW Unit)} (h : laidMet Tryz.prog l W) (hm : ("internal/strconv.uint64pow10", Lib.tabData .u64 Lib.pow10Tab) ∈ l) : Lib.TabIs Tryz.prog W "internal/strconv.uint64pow10" .u64 Lib.pow10Tab :=
  tab_of (g := 3) (t := 418) h hm (by kernel_rfl) (by kernel_rfl) Tryz.underlying418 Tryz.underlying78 (by kernel_rfl) (by kernel_rfl)

theorem post_of_below {H : Type} {enc : TypeId × Value → H} {P : Program} {f : Func} {s : ChangeSpec} {apart fresh handsOn : Bool} {W W' : World} {args : Array Value} {v : Value} {ds gs : List (DataW H)} {before pa pv : List MemPlace}
    (hW : DataW.Whole enc P f.params.toList s.vars apart W args.toList ds gs before) (hb : Below W.heap.size W W')
    (hres : ∀ (b : Nat) (sp : Nat → Bool) (hd : Bool), DataW.TrodAll enc P W' b sp hd f.resultTypes.toList (v.resultList f.resultTypes.size) (s.fn H (ds ++ gs)).results [])
    (hargs : DataW.TrodAll enc P W' 0 (fun b => decide (b < W.heap.size)) true f.params.toList args.toList (s.fn H (ds ++ gs)).args pa)
    (hvars : DataW.TrodVars enc P W' (fun b => decide (b < W.heap.size)) s.vars (s.fn H (ds ++ gs)).vars pv) : s.post enc P f apart fresh handsOn false W args v W' :=
  ⟨ds, gs, before, [], pa, pv, hW, hres _ _ _, hargs, hvars, hb.frame _, fun h => by cases h⟩

/-- What a row's list gives: an error of the library's. -/
theorem err_of {W : World} {l : List (String × DataW Unit)} {nm name : String} {x d : DataW Unit} {g : Nat} {t : TypeId} {ms : Array (String × TypeId)} (h : laidMet Tryz.prog l W) (hm : (nm, x) ∈ l) (hx : x = .iface name d)
    (hg' : Tryz.prog.globalNamed nm = some g) (ht' : (Tryz.prog.globals[g]?).map (·.type) = some t) (hi : Tryz.prog.underlying t = some (.interface ms)) : ∃ u v, W.cell? ⟨g, 0, none⟩ = some (.iface u v) := by
  obtain ⟨ps, hv, _, _⟩ := h
  have key : ∀ {l : List (String × DataW Unit)} {ps : List MemPlace}, DataW.LaidVars Tryz.prog W l ps → (nm, x) ∈ l → ∃ u v, W.cell? ⟨g, 0, none⟩ = some (.iface u v) := by
    intro l
    induction l with
    | nil => intro ps _ hm; cases hm
    | cons y l ih =>
      intro ps hv hm
      obtain ⟨nm', d'⟩ := y
      obtain ⟨g2, t2, cs, fuel, p, q, hg, ht, hvar, hd, hrest, _⟩ := hv
      rcases List.mem_cons.mp hm with e | hm
      · cases e
        obtain rfl := Option.some.inj (hg'.symm.trans hg)
        obtain rfl := Option.some.inj (ht'.symm.trans ht)
        rw [hx] at hd
        obtain ⟨f2, u, v, hcs, _⟩ := iface_of_trod hi hd
        unfold World.var? at hvar
        rw [hg'] at hvar
        simp only [Option.bind_some] at hvar
        split at hvar
        · rename_i cs2 _ _ hh
          cases hvar
          have e2 : cs = #[.iface u v] := Array.toList_inj.mp hcs
          subst e2
          exact ⟨u, v, by simp [World.cell?, hh]⟩
        · cases hvar
      · exact ih hrest hm
  exact key hv hm

/-- What the walks want of the library's variables. -/
theorem lit_of {W : World} {l : List (String × DataW Unit)} (h : laidMet Tryz.prog l W) (hsh : W.ShapedOpen Tryz.prog) (hp : ("internal/strconv.uint64pow10", Lib.tabData .u64 Lib.pow10Tab) ∈ l)
    (h1 : ("strconv.ErrSyntax", Rows.laid_strconv_ErrSyntax) ∈ l) (h2 : ("strconv.ErrRange", Rows.laid_strconv_ErrRange) ∈ l) : Lit W.heap.size W := by
  obtain ⟨u1, v1, e1⟩ := err_of (g := 1) (t := 138) h h1 rfl (by kernel_rfl) (by kernel_rfl) Tryz.underlying138
  obtain ⟨u2, v2, e2⟩ := err_of (g := 2) (t := 138) h h2 rfl (by kernel_rfl) (by kernel_rfl) Tryz.underlying138
  have hm := cell_of_shapedOpen_int (g := 0) (t := 3) (k := .i64) hsh (of_decide_eq_true (by kernel_rfl)) (zero := #[.int .i64 0]) (by kernel_rfl) rfl (by kernel_rfl) (by kernel_rfl) Tryz.underlying3
  exact ⟨Lib.tabBelow_of_tabIs (pow_of h hp), hm, ⟨_, e1, Or.inr ⟨_, _, rfl⟩⟩, ⟨_, e2, Or.inr ⟨_, _, rfl⟩⟩, Lib.lt_of_cell e2⟩

/-- The plain wrap, with the world's shape, and a fact on what is laid. -/
theorem handed_shaped_and {H : Type} {enc : TypeId × Value → H} {a : Assume} {C : Checked} {os : Os} {f : FuncId} {fn : Func} {s : ChangeSpec} {conds : List PathCond} {apart fresh handsOn again : Bool} {X : World → Array Value → Prop}
    (hX : ∀ (w w' : World) (args : Array Value), w.heap = w'.heap → X w args → X w' args)
    (own : ownKnob C.prog.godebug = none) (started : os.Started) (noInit : C.prog.inits.idxOf? f = none) (hfn : C.prog.funcs[f]? = some fn)
    (witness : ∃ (w : World) (tape : Tape) (i : Input), w.os = os ∧ (w.forCall tape i).Shaped C.prog ∧ i.vars = [] ∧ Input.okWide C.prog (w.forCall tape i) .any w.heap.size f i ∧
      ((s.pre enc C.prog fn conds apart (w.forCall tape i).memory i.args ∧ X (w.forCall tape i).memory i.args) ∧ sizedMet enc C.prog fn (OpenSpec.ofChange s) apart (w.forCall tape i).memory i.args) ∧ a.holds C.prog (lone (Frame.enter C.prog f i.args .normal) [] (w.forCall tape i)))
    (contract : ∀ (W : World) (base : Nat) (args : Array Value) (ds gs : List (DataW H)) (before : List MemPlace),
      (∀ (j : Nat) t v, fn.params[j]? = some t → args[j]? = some v → Value.okWide C.prog W .any base t v) →
      DataW.Whole enc C.prog fn.params.toList s.vars apart W args.toList ds gs before →
      W.ShapedOpen C.prog → X W args →
      Calls C.prog f args W fun e W' => ∃ v, e = .returned v ∧ s.post enc C.prog fn apart fresh handsOn again W args v W') :
    ReturnsInHanded a C os f .any (fun w args => (s.pre enc C.prog fn conds apart w args ∧ X w args) ∧ sizedMet enc C.prog fn (OpenSpec.ofChange s) apart w args) (s.post enc C.prog fn apart fresh handsOn again) := by
  refine returnsInHanded_of_calls own started noInit witness ?_
  intro w tape i _ hsh _ hok hpre _
  obtain ⟨_, _, _, fn', hfn', _, _, _, _, hval⟩ := hok
  have e : fn' = fn := Option.some.inj (hfn'.symm.trans hfn)
  subst e
  obtain ⟨⟨⟨ds, gs, before, hw, _⟩, hx⟩, _⟩ := hpre
  have hw' := DataW.Whole.of_heap (w' := w.forCall tape i) (by rfl) hw
  refine (contract (w.forCall tape i) w.heap.size i.args ds gs before hval hw' hsh (hX _ _ _ (by rfl) hx)).mono fun e W' ⟨v, he, hp⟩ => ?_
  subst he
  exact ChangeSpec.post_blind hp

end Go.Proofs.YtmnlcldhhlkpeaaGreatDoor.backs
