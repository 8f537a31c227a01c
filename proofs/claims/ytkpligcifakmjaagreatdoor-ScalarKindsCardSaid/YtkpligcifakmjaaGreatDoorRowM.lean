/- Of rows of parts that a call owns. No condition. -/
import Derived.Test.YtkpligcifakmjaaGreatDoorNumM
namespace Go.Proofs
open Go.RowKit Go.Ke

theorem Tryz.info57' : (Tryz.prog.info? 57).map (fun i => (i.zero, i.size, i.bytes)) = some (some (.agg #[.int .i64 0, .int .i64 0, .int .i64 0, .int .i64 0, .int .i64 0, .string ⟨#[]⟩, .string ⟨#[]⟩, .string ⟨#[]⟩, .bool false, .slice none 0 0, .slice none 0 0, .slice none 0 0, .slice none 0 0]), 13, 192) := by kernel_rfl

section
variable {P : Program}

/-- Where a row lies behind an append: where it lay, or in the newest block. -/
theorem run_append_where (w : World) (base : Nat) (t ty e : TypeId) (i : TypeInfo) (z : Value) (size bytes : Nat) (ht : P.underlying t = some (.slice e)) (hi : P.info? e = some i) (hz : i.zero = some z)
    (hsize : i.size = size) (hby : i.bytes = bytes) (v : Value) (n : Nat) (xs : List Value) (hown : w.ownsRow base e size v n xs)
    (a : Addr) (m c : Nat) (news : List Value) (hl : news.length = m * size) (hnews : ∀ j u, news[j]? = some u → w.cell? (a.add j) = some u) (h1 : ∀ u ∈ news, u.oneCell' = true) (hm : 0 < m)
    (h63 : n + m ≤ maxLen) (hbytes : (n + m) * bytes ≤ 140737488355328) (v' : Value) (w' : World)
    (hr : (Builtin.append_ #[t, t] ty #[v, .slice (some a) m c]).run P w = .ok v' w') : v'.ownBlock = v.ownBlock ∨ v'.ownBlock = some w.heap.size := by
  subst hsize
  subst hby
  have hsmall : n + m ≤ 9223372036854775807 := by simp only [maxLen] at h63; omega
  rcases hown.2 with ⟨rfl, rfl⟩ | ⟨g, cap, cur, rfl, hbg, hg, hnc, hcm, hcs, htake⟩
  · have h := run_append_nil (P := P) w t ty e i z ht hi hz a m c news hl hnews (by omega) (by omega) (by have hb := hbytes; simp only [Nat.zero_add] at hb; omega)
    rw [h] at hr
    cases hr
    right; rfl
  · by_cases hroom : n + m ≤ cap
    · have hfit : n * i.size + news.length ≤ cur.size := by rw [hl, hcs, ← Nat.add_mul]; exact Nat.mul_le_mul_right _ hroom
      have h := run_append_room (P := P) w t ty e i ht hi g n cap cur hg a m c news hl hnews h1 hroom hfit
      rw [h] at hr
      cases hr
      left; rfl
    · have holds : ∀ j u, xs[j]? = some u → w.cell? ((⟨g, 0, none⟩ : Addr).add j) = some u := hown.cells (g := g) rfl
      have h := run_append_grow (P := P) w t ty e i z ht hi hz ⟨g, 0, none⟩ n cap xs hown.1 holds a m c news hl hnews (by omega) (by omega) (growslice_fits (by omega) hbytes)
      rw [h] at hr
      cases hr
      right; rfl

theorem wp_append_own2 {o : Oper} {a : Act} {K : Act → World → Prop} {Q : Exit → Act → World → Prop} (w : World) (s x : Operand) (t : TypeId)
    (ho : o.op = .call { callee := .builtin .append, args := #[s, x], argTypes := #[t, t] })
    (base : Nat) (e : TypeId) (i : TypeInfo) (z : Value) (size bytes : Nat) (ht : P.underlying t = some (.slice e)) (hi : P.info? e = some i) (hz : i.zero = some z)
    (hsize : i.size = size) (hby : i.bytes = bytes) (hzs : z.cells.size = size) (hsz : 0 < size)
    (v : Value) (n : Nat) (xs : List Value) (hs : a.eval s = v) (hown : w.ownsRow base e size v n xs)
    (ad : Addr) (m c : Nat) (news : List Value) (hx : a.eval x = .slice (some ad) m c) (hl : news.length = m * size) (hnews : ∀ j u, news[j]? = some u → w.cell? (ad.add j) = some u) (h1 : ∀ u ∈ news, u.oneCell' = true) (hm : 0 < m)
    (h63 : n + m ≤ maxLen) (hbytes : (n + m) * bytes ≤ 140737488355328) (hbase : base ≤ w.heap.size)
    (h : ∀ v' w', w'.ownsRow base e size v' (n + m) (xs ++ news) → w.grownBy w' v.ownBlock → (v'.ownBlock = v.ownBlock ∨ v'.ownBlock = some w.heap.size) → K (a.put o.dst v') w') : o.wp P a w K Q := by
  obtain ⟨v', w', hr, h2, h3, _⟩ := run_append_own (P := P) w base t o.type e i z size bytes ht hi hz hsize hby hzs hsz v n xs hown ad m c news hl hnews h1 h63 hbytes hbase
  have h5 := run_append_where (P := P) w base t o.type e i z size bytes ht hi hz hsize hby v n xs hown ad m c news hl hnews h1 hm h63 hbytes v' w' hr
  unfold Oper.wp execOp
  simp only [ho, resolve, invoke, builtin, Sem.run_bind, Sem.run_pure, Result.andThen_ok, List.map_toArray, List.map_cons, List.map_nil, hs, hx, hr]
  exact h v' w' h2 h3 h5
end

theorem rowC_append (l k : List (Ex × Option Addr × Nat)) : rowC (l ++ k) = rowC l ++ rowC k := by
  induction l with
  | nil => rfl
  | cons t l ih => simp only [List.cons_append, rowC, ih, List.append_assoc]

theorem rowC_length : ∀ l : List (Ex × Option Addr × Nat), (rowC l).length = l.length * 13
  | [] => rfl
  | t :: l => by
    unfold rowC
    rw [List.length_append, rowC_length l]
    simp [Node.cells]
    omega

theorem rowC_one : ∀ (l : List (Ex × Option Addr × Nat)), ∀ u ∈ rowC l, u.oneCell' = true
  | [], u, h => by simp [rowC] at h
  | t :: l, u, h => by
    unfold rowC at h
    rw [List.mem_append] at h
    rcases h with h | h
    · simp [Node.cells] at h
      rcases h with rfl | rfl | rfl | rfl | rfl | rfl | rfl | rfl | rfl | rfl | rfl <;> rfl
    · exact rowC_one l u h

theorem countR_append (l k : List (Ex × Option Addr × Nat)) : countR (l ++ k) = countR l + countR k := by
  induction l with
  | nil => simp [countR]
  | cons t l ih => simp only [List.cons_append, countR, ih]; omega

/-- A row of trees that the call owns, in blocks from L on, none of them y. -/
structure RowAt (L y : Nat) (W : World) (v : Value) (ts : List (Ex × Option Addr × Nat)) : Prop where
  own : W.ownsRow L 57 13 v ts.length (rowC ts)
  ne : v.ownBlock ≠ some y
  trees : ∀ t ∈ ts, ∃ d, ExQ (fun p => L ≤ p ∧ p < W.heap.size ∧ some p ≠ v.ownBlock ∧ p ≠ y) d W t.2.1 t.2.2 t.1

theorem RowAt.nil (L y : Nat) (W : World) : RowAt L y W (.slice none 0 0) [] := ⟨World.ownsRow_nil _ _ _ _, by simp [Value.ownBlock], by simp⟩

theorem RowAt.turn {L y g : Nat} {W W' : World} {v : Value} {ts : List (Ex × Option Addr × Nat)} (h : RowAt L y W v ts) (ht : Turns g W W') (hg : g < L) : RowAt L y W' v ts := by
  have hsz := ht.size
  refine ⟨h.own.kept (row := some g) ⟨ht.below.os, ht.below.tape, ht.below.output, ht.size, fun k hk hkg => ht.same k hk (fun e => hkg (by rw [e]))⟩ (.inr fun e => ?_), h.ne, fun t hm => ?_⟩
  · have := (h.own.lt g e).1
    omega
  · obtain ⟨d, hd⟩ := h.trees t hm
    exact ⟨d, hd.kept (fun p hp => ht.same p hp.2.1 (by omega)) (fun p hp => ⟨hp.1, by omega, hp.2.2⟩)⟩

theorem RowAt.call {L y : Nat} {W W' : World} {v : Value} {ts : List (Ex × Option Addr × Nat)} (h : RowAt L y W v ts) (hb : Below W.heap.size W W') : RowAt L y W' v ts := by
  have hsz := hb.size
  refine ⟨h.own.kept (grown_of_below hb none) (by cases hv : v.ownBlock <;> simp), h.ne, fun t hm => ?_⟩
  obtain ⟨d, hd⟩ := h.trees t hm
  exact ⟨d, hd.kept (fun p hp => hb.block p hp.2.1) (fun p hp => ⟨hp.1, by omega, hp.2.2⟩)⟩

/-- A cell of block y is written. -/
theorem RowAt.set {L y i : Nat} {W : World} {x v : Value} {ts : List (Ex × Option Addr × Nat)} (h : RowAt L y W v ts) : RowAt L y (W.setCell ⟨y, i, none⟩ x) v ts := by
  refine ⟨h.own.kept (row := some y) ⟨rfl, rfl, rfl, by simp [World.setCell], fun k _ hk => block_set_ne (fun e => hk (by rw [e]))⟩ (.inr h.ne), h.ne, fun t hm => ?_⟩
  obtain ⟨d, hd⟩ := h.trees t hm
  exact ⟨d, hd.kept (fun p hp => block_set_ne (Ne.symm hp.2.2.2)) (fun p hp => ⟨hp.1, by rw [size_set]; exact hp.2.1, hp.2.2⟩)⟩

/-- Trees that lie elsewhere join the row. -/
theorem wp_append_row {o : Oper} {a : Act} {K : Act → World → Prop} {Q : Exit → Act → World → Prop} {W : World} (s x : Operand)
    (ho : o.op = .call { callee := .builtin .append, args := #[s, x], argTypes := #[53, 53] })
    {L y : Nat} {v : Value} {ts : List (Ex × Option Addr × Nat)} (hR : RowAt L y W v ts) (hs : a.eval s = v) (ns : List (Ex × Option Addr × Nat)) (q : Nat) (hq : W.heap[q]? = some (.cells (rowC ns).toArray 57)) (hx : a.eval x = .slice (some ⟨q, 0, none⟩) ns.length ns.length)
    (hns : ∀ t ∈ ns, ∃ d, ExQ (fun p => L ≤ p ∧ p < W.heap.size ∧ some p ≠ v.ownBlock ∧ p ≠ y) d W t.2.1 t.2.2 t.1) (hm : 0 < ns.length) (hlen : ts.length + ns.length ≤ 1000000) (hL : L ≤ W.heap.size) (hy : y < W.heap.size)
    (h : ∀ v' w', RowAt L y w' v' (ts ++ ns) → W.grownBy w' v.ownBlock → K (a.put o.dst v') w') : o.wp Tryz.prog a W K Q := by
  obtain ⟨i, hi, hz, hsi, hb⟩ := info_parts Tryz.info57'
  refine wp_append_own2 W s x 53 ho L 57 i _ 13 192 Tryz.underlying53 hi hz hsi hb rfl (by decide) v ts.length (rowC ts) hs hR.own ⟨q, 0, none⟩ ns.length ns.length (rowC ns) hx (rowC_length ns) ?_ (rowC_one ns) hm (by unfold maxLen; omega) (by omega) hL ?_
  · intro j u hj
    have : (⟨q, 0, none⟩ : Addr).add j = ⟨q, 0 + j, none⟩ := by unfold Addr.add; split <;> simp_all
    rw [this, Nat.zero_add]
    simp only [World.cell?, hq, List.getElem?_toArray]
    exact hj
  · intro v' w' ho' hg hw
    have hsz := hg.size
    refine h v' w' ⟨?_, ?_, fun t ht => ?_⟩ hg
    · rw [List.length_append, rowC_append]; exact ho'
    · rcases hw with e | e
      · rw [e]; exact hR.ne
      · rw [e]; intro e2; injection e2 with e2; omega
    · have hall : ∃ d, ExQ (fun p => L ≤ p ∧ p < W.heap.size ∧ some p ≠ v.ownBlock ∧ p ≠ y) d W t.2.1 t.2.2 t.1 := by
        rw [List.mem_append] at ht
        rcases ht with ht | ht
        · exact hR.trees t ht
        · exact hns t ht
      obtain ⟨d, hd⟩ := hall
      refine ⟨d, hd.kept (fun p hp => hg.block p hp.2.1 hp.2.2.1) (fun p hp => ⟨hp.1, by omega, ?_, hp.2.2.2⟩)⟩
      rcases hw with e | e
      · rw [e]; exact hp.2.2.1
      · rw [e]; intro e2; injection e2 with e2; omega
end Go.Proofs

namespace Go.Proofs
open Go.RowKit Go.Ke

/-- A row of trees as it was laid, and a further block. -/
theorem RowAt.laid {L : Nat} {W : World} (l : List (Ex × Option Addr × Nat)) (h0 : 0 < l.length) (h1 : l.length ≤ 1000000) (hL : L ≤ W.heap.size) (o : Obj)
    (ht : ∀ t ∈ l, ∃ d, ExQ (fun p => L ≤ p ∧ p < W.heap.size) d W t.2.1 t.2.2 t.1) :
    RowAt L (W.heap.size + 1) ((W.alloc (.cells (rowC l).toArray 57)).alloc o) (.slice (some ⟨W.heap.size, 0, none⟩) l.length l.length) l := by
  have hs1 := ex_alloc_size W (.cells (rowC l).toArray 57)
  have hs2 := ex_alloc_size (W.alloc (.cells (rowC l).toArray 57)) o
  refine ⟨⟨rowC_length l, .inr ⟨W.heap.size, l.length, (rowC l).toArray, rfl, hL, ?_, Nat.le_refl _, by unfold maxLen; omega, by rw [List.size_toArray]; exact rowC_length l, ?_⟩⟩, ?_, fun t hm => ?_⟩
  · rw [heap_alloc_old _ _ (by omega)]; exact heap_alloc_new _ _
  · rw [← rowC_length l]; simp
  · simp only [Value.ownBlock]; intro e; injection e with e; omega
  · obtain ⟨d, hd⟩ := ht t hm
    refine ⟨d, hd.kept (fun p hp => by rw [heap_alloc_old _ _ (by omega), heap_alloc_old _ _ hp.2]) (fun p hp => ⟨hp.1, by omega, ?_, by omega⟩)⟩
    simp only [Value.ownBlock]; intro e; injection e with e; omega

theorem RowAt.slice {L y : Nat} {W : World} {v : Value} {ts : List (Ex × Option Addr × Nat)} (h : RowAt L y W v ts) (h0 : 0 < ts.length) : ∃ gr n cap, v = .slice (some ⟨gr, 0, none⟩) n cap := by
  rcases h.own.2 with ⟨_, hn⟩ | ⟨gr, cap, cur, rfl, _⟩
  · omega
  · exact ⟨gr, _, cap, rfl⟩

/-- The part over a row that is done. -/
theorem RowAt.tree {L y C : Nat} {W : World} {v : Value} {ts : List (Ex × Option Addr × Nat)} (h : RowAt L y W v ts) (h0 : 0 < ts.length) (h1 : ts.length ≤ 1000000) (x : Node) (hx : x.ok) (hC : countR ts + 1 ≤ C) :
    ∃ gr cap, v = .slice (some ⟨gr, 0, none⟩) ts.length cap ∧ TreeAt C L W (.mk x (ts.map (·.1))) (some ⟨gr, 0, none⟩) cap := by
  rcases h.own.2 with ⟨_, hn⟩ | ⟨gr, cap, cur, rfl, hb, hg, hnc, _, hcs, htake⟩
  · omega
  · refine ⟨gr, cap, rfl, ?_⟩
    obtain ⟨d, hd⟩ := levels (Q := fun p => L ≤ p ∧ p < W.heap.size) ts (fun t ht => by
      obtain ⟨d, hd⟩ := h.trees t ht
      exact ⟨d, hd.kept (fun _ _ => rfl) (fun p hp => ⟨hp.1, hp.2.1⟩)⟩)
    refine ⟨⟨d + 1, hx, by simpa [Ex.args] using h1, by simpa [Ex.args] using hnc, fun i hi => ?_⟩, ?_⟩
    · have hi2 : i < ts.length := by simpa [Ex.args] using hi
      refine ⟨gr, 0, ts[i].2.1, ts[i].2.2, rfl, ⟨hb, blk_lt hg⟩, ?_, ?_⟩
      · have e (j : Nat) (hj : j < 13) : W.cell? ⟨gr, 0 + i * 13 + j, none⟩ = (ts[i].1.node.cells (.slice ts[i].2.1 ts[i].1.args.length ts[i].2.2))[j]? := by
          have hat := rowC_at ts i hi2 j hj
          rw [← htake, List.getElem?_take_of_lt (by omega)] at hat
          simp only [World.cell?, hg, Nat.zero_add]
          simpa using hat
        simpa [Ex.args] using (⟨e 0 (by decide), e 1 (by decide), e 2 (by decide), e 3 (by decide), e 4 (by decide), e 5 (by decide), e 6 (by decide), e 7 (by decide), e 8 (by decide), e 9 (by decide), e 10 (by decide), e 11 (by decide), e 12 (by decide)⟩ : CellsAt W gr (0 + i * 13) ts[i].1.node (.slice ts[i].2.1 ts[i].1.args.length ts[i].2.2))
      · simpa [Ex.args] using hd _ (List.getElem_mem hi2)
    · show countL (ts.map (·.1)) + 1 ≤ C
      rw [countL_map]; exact hC

/-- Of a generator that gathers parts in block y. -/
structure Cl (P : Pm) (B y : Nat) (deep : Int) (x : Node) (w W : World) (a : Int) (v : Value) (ts : List (Ex × Option Addr × Nat)) : Prop where
  sc : Sc P B deep w W a
  box : Box W y x v
  row : RowAt (B + 5) y W v ts
  ge : B + 5 ≤ y

theorem Cl.turn {P : Pm} {B y : Nat} {deep : Int} {x : Node} {w W W' : World} {a b : Int} {v : Value} {ts : List (Ex × Option Addr × Nat)} (h : Cl P B y deep x w W a v ts) (ht : Turns P.g W W') (hl : Live W' P.g P.N P.zad P.zs P.zcap b) : Cl P B y deep x w W' b v ts := by
  have := h.sc.lt
  have := h.ge
  exact ⟨h.sc.turn ht hl, ht.block h.box (by omega), h.row.turn ht (by omega), h.ge⟩

theorem Cl.call {P : Pm} {B y : Nat} {deep : Int} {x : Node} {w W W' : World} {a : Int} {v : Value} {ts : List (Ex × Option Addr × Nat)} (h : Cl P B y deep x w W a v ts) (hb : Below W.heap.size W W') : Cl P B y deep x w W' a v ts :=
  h.turn (Turns.of hb (Nat.le_of_lt h.sc.live.lt)) (h.sc.live.call hb)

theorem Cl.cells {P : Pm} {B y : Nat} {deep : Int} {x : Node} {w W : World} {a : Int} {v : Value} {ts : List (Ex × Option Addr × Nat)} (h : Cl P B y deep x w W a v ts) :
    W.cell? ⟨B, 0, none⟩ = some (.pointer (some ⟨P.g, 0, none⟩)) ∧ W.cell? ⟨B + 1, 0, none⟩ = some (.slice P.cad P.cs.length P.cc) ∧ W.cell? ⟨B + 2, 0, none⟩ = some (.slice P.pad P.ps.length P.pc) ∧ W.cell? ⟨B + 3, 0, none⟩ = some (.int .i64 deep) ∧ W.cell? ⟨y, 9, none⟩ = some v ∧ W.frozen? ⟨y, 9, none⟩ = false := by
  obtain ⟨h0, h1, h2, h3⟩ := h.sc.cells
  exact ⟨h0, h1, h2, h3, h.box.is.c9, h.box.froz 9⟩

theorem Turns.grown {g : Nat} {w W W' : World} {row : Option Nat} (h : Turns g w W) (hg : W.grownBy W' row) (hr : ∀ k, row = some k → w.heap.size ≤ k) (hgw : g ≤ w.heap.size) : Turns g w W' := by
  have hs := h.size
  refine ⟨Nat.le_trans hs hg.size, fun k hk hkg => ?_, h.below.trans ⟨hg.os, hg.tape, hg.output, hg.size, fun k hk => ?_⟩⟩
  · rw [hg.block k (by omega) (fun e => by have := hr k e.symm; omega)]
    exact h.same k hk hkg
  · exact hg.block k (by omega) (fun e => by have := hr k e.symm; omega)

/-- The row grew: all but block y. -/
theorem Sc.grown {P : Pm} {B : Nat} {deep : Int} {w W W' : World} {a : Int} {row : Option Nat} (h : Sc P B deep w W a) (hg : W.grownBy W' row) (hr : ∀ k, row = some k → B + 5 ≤ k) : Sc P B deep w W' a := by
  have hlt := h.lt
  have hs := h.turns.size
  have hsz := h.size
  have hbase := h.base
  have hb : Below (B + 5) W W' := ⟨hg.os, hg.tape, hg.output, hg.size, fun k hk => hg.block k (by omega) (fun e => by have := hr k e.symm; omega)⟩
  have hst : Strm W' P.g P.zad P.zs.length P.zcap a := (hb.block _ (by omega)).trans h.live.st
  have hle := h.live.le
  refine ⟨⟨hst, h.live.ints.below (hb.mono (by omega)), h.live.le, h.live.len, h.live.pos⟩, h.cols.below (hb.mono (by omega)), fun j hj => ?_, (hb.block _ (by omega)).trans h.e0, (hb.block _ (by omega)).trans h.e1, (hb.block _ (by omega)).trans h.e2, (hb.block _ (by omega)).trans h.e3, (hb.block _ (by omega)).trans h.res, hlt, h.turns.grown hg (fun k hk => by have := hr k hk; omega) (by omega), hbase⟩
  obtain ⟨p, o, h1, h2, h3, h4, h5⟩ := h.pars j hj
  exact ⟨p, o, h1, h2, h3, (hb.cell (p := ⟨p, o + j, none⟩) (by show p < B + 5; omega)).trans h4, h5⟩

/-- The trees of a row that the goal's world has just been given are appended to the row, and it is stored. -/
theorem Cl.append {P : Pm} {B y : Nat} {deep : Int} {x : Node} {w W : World} {a : Int} {v : Value} {ts : List (Ex × Option Addr × Nat)} (h : Cl P B y deep x w W a v ts) {o : Oper} {A : Act} {K : Act → World → Prop} {Q : Exit → Act → World → Prop} (s z : Operand)
    (ho : o.op = .call { callee := .builtin .append, args := #[s, z], argTypes := #[53, 53] }) (hs : A.eval s = v) (ns : List (Ex × Option Addr × Nat))
    (hns : ∀ t ∈ ns, ∃ d, ExQ (fun p => B + 5 ≤ p ∧ p < W.heap.size ∧ some p ≠ v.ownBlock ∧ p ≠ y) d W t.2.1 t.2.2 t.1) (hm : 0 < ns.length) (hlen : ts.length + ns.length ≤ 1000000)
    (hx : A.eval z = .slice (some ⟨W.heap.size, 0, none⟩) ns.length ns.length)
    (hK : ∀ v' w', (∀ W', w' = W' → Box W' y x v ∧ RowAt (B + 5) y W' v' (ts ++ ns) ∧ Sc P B deep w W' a) → K (A.put o.dst v') w') : o.wp Tryz.prog A (W.alloc (.cells (rowC ns).toArray 57)) K Q := by
  have hb := (Below.refl W.heap.size W).alloc (Nat.le_refl _) (.cells (rowC ns).toArray 57)
  have hsz := ex_alloc_size W (.cells (rowC ns).toArray 57)
  have hy := blk_lt h.box
  have hz := h.sc.size
  have hC := h.call hb
  refine wp_append_row s z ho hC.row hs ns W.heap.size (heap_alloc_new _ _) hx (fun t ht => ?_) hm hlen (by omega) (by omega) (fun v' w' h1 h2 => hK v' w' ?_)
  · obtain ⟨d, hd⟩ := hns t ht
    exact ⟨d, hd.kept (fun p hp => heap_alloc_old _ _ hp.2.1) (fun p hp => ⟨hp.1, by omega, hp.2.2⟩)⟩
  · rintro W' rfl
    exact ⟨(h2.block y (by omega) (Ne.symm h.row.ne)).trans hC.box, h1, hC.sc.grown h2 (fun k hk => (h.row.own.lt k hk).1)⟩

/-- The first tree of a part is laid, then the part itself. -/
theorem Cl.laid {P : Pm} {B : Nat} {deep : Int} {x : Node} {w W : World} {a : Int} {t : Ex × Option Addr × Nat} (h : Sc P B deep w W a) (ht : ∃ d, ExQ (fun p => B + 5 ≤ p ∧ p < W.heap.size) d W t.2.1 t.2.2 t.1) :
    Cl P B (W.heap.size + 1) deep x w ((W.alloc (.cells (rowC [t]).toArray 57)).alloc (.cells (x.cells (.slice (some ⟨W.heap.size, 0, none⟩) 1 1)) 57)) a (.slice (some ⟨W.heap.size, 0, none⟩) 1 1) [t] := by
  have hs := h.size
  have hb := (Below.refl W.heap.size W).alloc (Nat.le_refl _) (.cells (rowC [t]).toArray 57)
  have hs1 := ex_alloc_size W (.cells (rowC [t]).toArray 57)
  have hb2 := hb.alloc (by omega) (.cells (x.cells (.slice (some ⟨W.heap.size, 0, none⟩) 1 1)) 57)
  refine ⟨h.call hb2, ?_, RowAt.laid [t] (by simp) (by simp) (by omega) _ (by simpa using ht), by omega⟩
  have := Box.new (W.alloc (.cells (rowC [t]).toArray 57)) x (.slice (some ⟨W.heap.size, 0, none⟩) 1 1)
  rw [hs1] at this
  exact this

/-- The row is stored. -/
theorem Cl.stored {P : Pm} {B y : Nat} {deep : Int} {x : Node} {w W : World} {a : Int} {v v' : Value} {ts : List (Ex × Option Addr × Nat)} (hy : B + 5 ≤ y) (hB : Box W y x v) (hR : RowAt (B + 5) y W v' ts) (hS : Sc P B deep w W a) : Cl P B y deep x w (W.setCell ⟨y, 9, none⟩ v') a v' ts :=
  ⟨hS.set hy, block_set (i := 9) (v := v') hB, hR.set, hy⟩

theorem apart_turn {g B y d0 : Nat} {W W' : World} {t : Ex} {ad : Option Addr} {cap : Nat} {v : Value} (ht : Turns g W W') (hg : g < B + d0) (h : ∃ d, ExQ (fun p => B + d0 ≤ p ∧ p < W.heap.size ∧ some p ≠ v.ownBlock ∧ p ≠ y) d W ad cap t) : ∃ d, ExQ (fun p => B + d0 ≤ p ∧ p < W'.heap.size ∧ some p ≠ v.ownBlock ∧ p ≠ y) d W' ad cap t := by
  obtain ⟨d, hd⟩ := h
  have := ht.size
  exact ⟨d, hd.kept (fun p hp => ht.same p hp.2.1 (by omega)) (fun p hp => ⟨hp.1, by omega, hp.2.2⟩)⟩

/-- Fresh trees are apart from the row. -/
theorem TreeAt.apart {C L B y : Nat} {W : World} {t : Ex} {ad : Option Addr} {cap : Nat} {v : Value} (h : TreeAt C L W t ad cap) (hB : B + 5 ≤ L) (hy : y < L) (hv : ∀ k, v.ownBlock = some k → k < L) : ∃ d, ExQ (fun p => B + 5 ≤ p ∧ p < W.heap.size ∧ some p ≠ v.ownBlock ∧ p ≠ y) d W ad cap t := by
  obtain ⟨⟨d, hd⟩, _⟩ := h
  exact ⟨d, hd.kept (fun _ _ => rfl) (fun p hp => ⟨by omega, hp.2, fun e => by have := hv p e.symm; omega, by omega⟩)⟩
end Go.Proofs

namespace Go.Proofs
open Go.RowKit Go.Ke

theorem CellsAt.all {W : World} {q o : Nat} {x : Node} {v : Value} (h : CellsAt W q o x v) (r : Nat) (hr : r < 13) : W.cell? ⟨q, o + r, none⟩ = (x.cells v)[r]? := by
  obtain ⟨h0, h1, h2, h3, h4, h5, h6, h7, h8, h9, h10, h11, h12⟩ := h
  match r, hr with
  | 0, _ => exact h0
  | 1, _ => exact h1
  | 2, _ => exact h2
  | 3, _ => exact h3
  | 4, _ => exact h4
  | 5, _ => exact h5
  | 6, _ => exact h6
  | 7, _ => exact h7
  | 8, _ => exact h8
  | 9, _ => exact h9
  | 10, _ => exact h10
  | 11, _ => exact h11
  | 12, _ => exact h12

theorem rowC_lies {W : World} {q o : Nat} {ns : List (Ex × Option Addr × Nat)} (h : ∀ i (hi : i < ns.length), CellsAt W q (o + i * 13) ns[i].1.node (.slice ns[i].2.1 ns[i].1.args.length ns[i].2.2)) (j : Nat) (u : Value) (hj : (rowC ns)[j]? = some u) : W.cell? ⟨q, o + j, none⟩ = some u := by
  have hl : j < ns.length * 13 := by
    rw [← rowC_length]
    exact (List.getElem?_eq_some_iff.1 hj).1
  have hi : j / 13 < ns.length := by omega
  have e : j = j / 13 * 13 + j % 13 := by omega
  have hat := rowC_at ns (j / 13) hi (j % 13) (Nat.mod_lt _ (by decide))
  rw [← e, hj] at hat
  have hc := (h (j / 13) hi).all (j % 13) (Nat.mod_lt _ (by decide))
  rw [← hat, show o + j / 13 * 13 + j % 13 = o + j by omega] at hc
  exact hc

end Go.Proofs
