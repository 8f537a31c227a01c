/- Of package value: the list with a key. The key has fewer than 1000000000 bytes. -/
import Derived.Test.YtkpligcifakmjaaGreatDoorKv
import Derived.Deep.RegionLaw
namespace Go.Proofs
open Go.RowKit
open Go.Lib (byteCells strCells)

def valCells (l : List Val) : List Value := l.flatMap fun x => [.int .i64 x.k, .int .i64 x.n, .string x.s]

theorem valCells_snoc (l : List Val) (x : Val) : valCells (l ++ [x]) = valCells l ++ [.int .i64 x.k, .int .i64 x.n, .string x.s] := by
  simp [valCells]

theorem dec_ok {c : UInt8} {r : List UInt8} {y : Val} {n : Nat} (h : dec c r = .ok y n) : 1 ≤ n ∧ n ≤ r.length + 1 := by
  have hb := idx0_bounds r
  unfold dec at h
  repeat' split at h
  all_goals first
    | (cases h; done)
    | (simp only [Dec.ok.injEq] at h; obtain ⟨_, rfl⟩ := h; omega)

def unk : List UInt8 → List Val × Int
  | [] => ([], 0)
  | c :: r => match dec c r with
    | .err k => ([], k)
    | .ok y n => if h : 1 ≤ n then (if (unk ((c :: r).drop n)).2 = 0 then (y :: (unk ((c :: r).drop n)).1, 0) else ([], (unk ((c :: r).drop n)).2)) else ([], 0)
termination_by l => l.length
decreasing_by all_goals (simp only [List.length_drop, List.length_cons]; omega)

theorem unk_err {c : UInt8} {r : List UInt8} {k : Int} (h : dec c r = .err k) : unk (c :: r) = ([], k) := by
  rw [unk, h]

theorem unk_ok {c : UInt8} {r : List UInt8} {y : Val} {n : Nat} (h : dec c r = .ok y n) : unk (c :: r) = if (unk ((c :: r).drop n)).2 = 0 then (y :: (unk ((c :: r).drop n)).1, 0) else ([], (unk ((c :: r).drop n)).2) := by
  rw [unk, h]
  simp only
  rw [dif_pos (dec_ok h).1]

/-- What stands ahead of what is still to be read. -/
def after (l : List Val) (x : List Val × Int) : List Val × Int := if x.2 = 0 then (l ++ x.1, 0) else ([], x.2)

theorem after_nil (L : List UInt8) : after [] (unk L) = unk L := by
  unfold after
  split
  · rename_i h; rw [List.nil_append, ← h]
  · rename_i h
    match L with
    | [] => rw [unk] at h; simp at h
    | c :: r =>
      cases hd : dec c r with
      | err k => rw [unk_err hd]
      | ok y n =>
        rw [unk_ok hd] at h ⊢
        split
        · rename_i h2; rw [if_pos h2] at h; simp at h
        · rfl

theorem after_ok {c : UInt8} {r : List UInt8} {y : Val} {n : Nat} (l : List Val) (h : dec c r = .ok y n) : after l (unk (c :: r)) = after (l ++ [y]) (unk ((c :: r).drop n)) := by
  rw [unk_ok h]
  unfold after
  by_cases h2 : (unk ((c :: r).drop n)).2 = 0
  · simp [h2]
  · simp [h2]

theorem after_err {c : UInt8} {r : List UInt8} {k : Int} (l : List Val) (h : dec c r = .err k) (hk : k ≠ 0) : after l (unk (c :: r)) = ([], k) := by
  rw [unk_err h]
  unfold after
  rw [if_neg hk]

theorem after_end (l : List Val) : after l (unk []) = (l, 0) := by
  rw [unk]
  simp [after]

theorem dec_err {c : UInt8} {r : List UInt8} {k : Int} (h : dec c r = .err k) : k ≠ 0 := by
  unfold dec at h
  repeat' split at h
  all_goals first
    | (cases h; decide)
    | (cases h; done)

theorem alloc_one (w : World) (o : Obj) : (w.alloc o).heap.size = w.heap.size + 1 := by unfold World.alloc; simp

section
variable {P : Program}

theorem wp_append_val {o : Oper} {a : Act} {K : Act → World → Prop} {Q : Exit → Act → World → Prop} {w : World} (s x : Operand) (t : TypeId)
    (ho : o.op = .call { callee := .builtin .append, args := #[s, x], argTypes := #[t, t] })
    (B : Nat) (e : TypeId) (i : TypeInfo) (z : Value) (ht : P.underlying t = some (.slice e)) (hi : P.info? e = some i) (hz : i.zero = some z) (hzs : z.cells.size = 3) (hsize : i.size = 3) (hby : i.bytes = 32)
    (v : Value) (n : Nat) (xs : List Value) (W0 : World) (hb : Own B e 3 v n xs W0 w)
    (g : Nat) (y : Val) (hg : w.heap[g]? = some (.cells #[.int .i64 y.k, .int .i64 y.n, .string y.s] e)) (hlen : n + 1 ≤ 1000000000) (hs : a.eval s = v) (hx : a.eval x = .slice (some ⟨g, 0, none⟩) 1 1)
    (h : ∀ v' w', Own B e 3 v' (n + 1) (xs ++ [.int .i64 y.k, .int .i64 y.n, .string y.s]) W0 w' → K (a.put o.dst v') w') : o.wp P a w K Q := by
  refine wp_append_own w s x t ho B e i z 3 32 ht hi hz hsize hby hzs (by decide) v n xs hs hb.1 ⟨g, 0, none⟩ 1 1 [.int .i64 y.k, .int .i64 y.n, .string y.s] hx rfl ?_ ?_ (by unfold maxLen; omega) (by omega) hb.2.2 ?_
  · intro j u hj
    match j, hj with
    | 0, hj => simp at hj; subst hj; simp [Addr.add, World.cell?, hg]
    | 1, hj => simp at hj; subst hj; simp [Addr.add, World.cell?, hg]
    | 2, hj => simp at hj; subst hj; simp [Addr.add, World.cell?, hg]
    | (j + 3), hj => simp at hj
  · intro u hu
    simp only [List.mem_cons, List.mem_nil_iff, or_false] at hu
    rcases hu with rfl | rfl | rfl <;> rfl
  · intro v' w' ho' hgr _
    exact h v' w' (hb.grown ho' hgr)

theorem append_val {ops : Array Oper} {rest : List Oper} {o : Oper} {a : Act} {Q : Exit → Act → World → Prop} (hgd : o.guard = none) (s x : Operand) (t : TypeId)
    (ho : o.op = .call { callee := .builtin .append, args := #[s, x], argTypes := #[t, t] })
    (B : Nat) (e : TypeId) (i : TypeInfo) (z : Value) (ht : P.underlying t = some (.slice e)) (hi : P.info? e = some i) (hz : i.zero = some z) (hzs : z.cells.size = 3) (hsize : i.size = 3) (hby : i.bytes = 32)
    (v : Value) (n : Nat) (xs : List Value) (W0 w0 : World) (hb : Own B e 3 v n xs W0 w0)
    (y : Val) (hlen : n + 1 ≤ 1000000000) (hs : a.eval s = v) (hx : ∃ G, a.eval x = .slice (some ⟨G, 0, none⟩) 1 1 ∧ w0.heap.size = G)
    (h : ∀ v' w', Own B e 3 v' (n + 1) (xs ++ [.int .i64 y.k, .int .i64 y.n, .string y.s]) W0 w' → wpList P ops Q rest (a.put o.dst v') w') : wpList P ops Q (o :: rest) a (w0.alloc (.cells #[.int .i64 y.k, .int .i64 y.n, .string y.s] e)) :=
  wpList_plain hgd fun _ hK => wp_append_val s x t ho B e i z ht hi hz hzs hsize hby v n xs W0 (hb.alloc _) w0.heap.size y (heap_alloc_new w0 _) hlen hs (by obtain ⟨G, h1, h2⟩ := hx; rw [h1, h2]) fun v' w' h2 => hK _ _ (h v' w' h2)

theorem step_append_val {ops : Array Oper} {o : Oper} {a : Act} {K : Act → World → Prop} {Q : Exit → Act → World → Prop} {E : Prop} {w : World} (hgd : o.guard = none) (s x : Operand) (t : TypeId)
    (ho : o.op = .call { callee := .builtin .append, args := #[s, x], argTypes := #[t, t] })
    (B : Nat) (e : TypeId) (i : TypeInfo) (z : Value) (ht : P.underlying t = some (.slice e)) (hi : P.info? e = some i) (hz : i.zero = some z) (hzs : z.cells.size = 3) (hsize : i.size = 3) (hby : i.bytes = 32)
    (v : Value) (n : Nat) (xs : List Value) (W0 : World) (hb : Own B e 3 v n xs W0 w)
    (y : Val) (hlen : n + 1 ≤ 1000000000) (hs : a.eval s = v) (hx : ∃ g, a.eval x = .slice (some ⟨g, 0, none⟩) 1 1 ∧ w.heap[g]? = some (.cells #[.int .i64 y.k, .int .i64 y.n, .string y.s] e))
    (h : ∀ v' w', Own B e 3 v' (n + 1) (xs ++ [.int .i64 y.k, .int .i64 y.n, .string y.s]) W0 w' → K (a.put o.dst v') w') :
    if Region.wanted o (yielded ops a.tmps) = true then Oper.wp P o a w K Q else E := by
  have hw : Region.wanted o (yielded ops a.tmps) = true := by simp [Region.wanted, hgd]
  rw [if_pos hw]
  obtain ⟨g, hx, hg⟩ := hx
  exact wp_append_val s x t ho B e i z ht hi hz hzs hsize hby v n xs W0 hb g y hg hlen hs hx h
end

theorem Tryz.info23' : (Tryz.prog.info? 23).map (fun i => (i.zero, i.size, i.bytes)) = some (some (.agg #[.int .i64 0, .int .i64 0, .string ⟨#[]⟩]), 3, 32) := by kernel_rfl

theorem BytesAt.via {w0 w w' : World} {N : Nat} {ad : Option Addr} {L : List UInt8} (h : BytesAt w N ad L) (hb : Below N w0 w) (hb' : Below N w0 w') : BytesAt w' N ad L := by
  intro i hi
  obtain ⟨p, o, h1, h2, h3⟩ := h i hi
  exact ⟨p, o, h1, h2, ((hb'.cell h2).trans (hb.cell h2).symm).trans h3⟩

/-- The call has made a row of values, or says an error. -/
def MadeV (x : List Val × Int) (w : World) (e : Ending) (w' : World) : Prop := ∃ v, Own w.heap.size 23 3 v x.1.length (valCells x.1) w w' ∧ e = .returned (.tuple #[v, .int .i64 x.2])

set_option maxRecDepth 20000 in
set_option maxHeartbeats 1000000 in
theorem Tryz.fromKey (L : List UInt8) (ad : Option Addr) (ca : Nat) (w : World) (h : BytesAt w w.heap.size ad L) (la : L.length < 1000000000) (hca : L.length ≤ ca) :
    Calls Tryz.prog 28 #[.slice ad L.length ca] w (MadeV (unk L) w) := by
  obtain ⟨i23, hi23, hz23, hs23, hb23⟩ := info_parts Tryz.info23'
  go_enter Tryz.func28, Tryz.ntmps28
  go_wp2_with fail
  go_loopw [0, 4] (fun b o wr => ∃ (R : List UInt8) (acc : List Val) (ad : Option Addr) (ca : Nat), b = .slice ad R.length ca ∧ BytesAt wr w.heap.size ad R ∧ R.length ≤ ca ∧ R.length + acc.length ≤ L.length ∧ Own w.heap.size 23 3 o acc.length (valCells acc) w wr ∧ after acc (unk R) = unk L) (fun b _ _ => match b with | .slice _ n _ => n | _ => 0)
  case atStart => exact ⟨L, [], ad, ca, rfl, h, hca, Nat.le_refl _, Own.start w 23 3, after_nil L⟩
  case round =>
    obtain ⟨R, acc, ad1, ca1, rfl, hR, hca1, hlen, hO, hU⟩ := hrel
    have HU := Lib.hid hU
    clear hU
    cases R with
    | nil =>
      go_wp2_with fail
      go_ret2
      refine ⟨?_, ?_, ?_⟩
      rotate_left
      · rw [← HU.out, after_end]; exact hO
      · rw [← HU.out, after_end]; rfl
    | cons c r =>
      simp only [List.length_cons] at hca1 hlen
      go_wp2_with fail
      refine (Tryz.keyValue c r ad1 ca1 wr w.heap.size hO.2.2 hR (by omega) (by omega)).mono ?_
      rintro e w2 ⟨hb2, hk⟩
      have hO2 := hO.call hb2
      cases hd : dec c r with
      | err k =>
        rw [hd] at hk
        obtain ⟨y, rfl⟩ := hk
        have hE : after acc (unk (c :: r)) = ([], k) := after_err acc hd (dec_err hd)
        have hk0 : (k != 0) = true := by simpa using dec_err hd
        have HE := Lib.hid hE
        clear hd hE
        simp only [Val.v, valV]
        go_wp2_with fail
        go_ret2
        refine ⟨.slice none 0 0, ?_, ?_⟩
        rotate_left
        · rw [← HU.out, HE.out]; rfl
        · rw [← HU.out, HE.out]; exact ⟨World.ownsRow_nil _ _ _ _, (hO2.alloc _).2.1, (hO2.alloc _).2.2⟩
      | ok y n =>
        rw [hd] at hk
        obtain ⟨ad2, ca2, rfl, hB2, hca2⟩ := hk
        have hE := Lib.hid (after_ok acc hd)
        have hn := dec_ok hd
        clear hd
        have hal : acc.length + 1 ≤ 1000000000 := by omega
        have hOa := hO2.alloc (.cells #[.int .i64 y.k, .int .i64 y.n, .string y.s] 23)
        simp only [Val.v, valV]
        go_wp2_with (at_builtin; (refine append_val ?_ (.tmp 20) (.tmp 22) 39 ?_ w.heap.size 23 i23 _ Tryz.underlying39 hi23 hz23 rfl hs23 hb23 _ _ _ w _ hOa y hal ?_ ?_ ?_; rfl; rfl; rfl; exact ⟨_, rfl, alloc_one _ _⟩; intro v3 w3 hO3))
        go_roundw
        case rel =>
          refine ⟨(c :: r).drop n, acc ++ [y], ad2, ca2, ?_, ?_, ?_, ?_, ?_, ?_⟩
          · rw [List.length_drop]; rfl
          · exact hB2.via hO2.2.1 hO3.2.1
          · rw [List.length_drop, List.length_cons]; omega
          · rw [List.length_drop, List.length_cons, List.length_append, List.length_singleton]; omega
          · exact hO3.cast (by simp) (valCells_snoc acc y).symm
          · rw [← hE.out]; exact HU.out
        case measure => simp; omega
end Go.Proofs
