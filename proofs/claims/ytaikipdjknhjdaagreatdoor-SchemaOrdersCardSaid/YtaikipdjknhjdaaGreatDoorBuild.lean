/- The schema of the law while it is being made. No condition. -/
import Derived.Test.YtaikipdjknhjdaaGreatDoorOrderR
namespace Go.Proofs
open Go.RowKit Go.Ke Go.Orders

theorem upTo_ext {α : Type} {f g : Nat → List α} : ∀ {n : Nat}, (∀ j, j < n → f j = g j) → upTo f n = upTo g n := by
  intro n
  induction n with
  | zero => intro _; rfl
  | succ n ih => intro h; rw [upTo_succ, upTo_succ, ih fun j hj => h j (by omega), h n (by omega)]

theorem own_keep {w w' : World} {B : Nat} {e : TypeId} {sz : Nat} {v : Value} {n : Nat} {xs : List Value} (h : w.ownsRow B e sz v n xs) (hk : ∀ g cur, B ≤ g → w.heap[g]? = some (.cells cur e (0, 0)) → w'.heap[g]? = some (.cells cur e (0, 0))) : w'.ownsRow B e sz v n xs := by
  refine ⟨h.1, ?_⟩
  rcases h.2 with hn | ⟨g, cap, cur, rfl, hb, hg, rest⟩
  · exact .inl hn
  · exact .inr ⟨g, cap, cur, rfl, hb, hk g cur hb hg, rest⟩

/-- The box of a table under way. -/
def tabC (nm : ByteArray) (cbv kbv : Nat) (v : Value) : Array Value := #[.string nm, .slice (some ⟨cbv, 0, none⟩) 2 2, .slice (some ⟨kbv, 0, none⟩) 1 1, v, .slice none 0 0]

/-- Of a table under way: k foreign keys are in. 'w0': the world at its beginning; t: its box. -/
structure Frn (g N : Nat) (zad : Option Addr) (zs : List Int) (zcap : Nat) (n : Nat) (w0 : World) (t : Nat) (nm : ByteArray) (cbv kbv : Nat) (v : Value) (k : Nat) (xbv tgv : Nat → Nat) (W : World) (a : Int) : Prop where
  live : Live W g N zad zs zcap a
  turn : Turns g w0 W
  glt : g < w0.heap.size
  box : W.heap[t]? = some (.cells (tabC nm cbv kbv v) 39)
  new : w0.heap.size ≤ t
  own : W.ownsRow w0.heap.size 42 3 v k (upTo (forV xbv fun k => nameL (tgv k)) k)
  nil : k = 0 → v = .slice none 0 0
  cols : ∀ j, j < k → W.heap[xbv j]? = some (.cells #[.string xL] 9)
  xnew : ∀ j, j < k → w0.heap.size ≤ xbv j
  xinj : ∀ i j, i < k → j < k → xbv i = xbv j → i = j
  tgs : ∀ j, j < k → tgv j < n
  cbc : W.heap[cbv]? = some (.cells colCells.toArray 33)
  kbc : W.heap[kbv]? = some (.cells #[.string idL] 9)
  cbn : w0.heap.size ≤ cbv
  kbn : w0.heap.size ≤ kbv

section
variable {g N : Nat} {zad : Option Addr} {zs : List Int} {zcap n : Nat} {w0 : World} {t : Nat} {nm : ByteArray} {cbv kbv : Nat} {v : Value} {k : Nat} {xbv tgv : Nat → Nat} {W W' : World} {a b : Int}

theorem Frn.next (h : Frn g N zad zs zcap n w0 t nm cbv kbv v k xbv tgv W a) (ht : Turns g W W') (hl : Live W' g N zad zs zcap b) : Frn g N zad zs zcap n w0 t nm cbv kbv v k xbv tgv W' b := by
  have hg := h.glt
  refine ⟨hl, h.turn.trans ht, h.glt, ht.block h.box (by have := h.new; omega), h.new, own_keep h.own fun q cur hq hc => ht.block hc (by omega), h.nil, fun j hj => ht.block (h.cols j hj) (by have := h.xnew j hj; omega), h.xnew, h.xinj, h.tgs, ht.block h.cbc (by have := h.cbn; omega), ht.block h.kbc (by have := h.kbn; omega), h.cbn, h.kbn⟩

theorem Frn.call (h : Frn g N zad zs zcap n w0 t nm cbv kbv v k xbv tgv W a) (hb : Below W.heap.size W W') : Frn g N zad zs zcap n w0 t nm cbv kbv v k xbv tgv W' a :=
  h.next (Turns.of hb (Nat.le_of_lt h.live.lt)) (h.live.call hb)

theorem Tryz.info42' : (Tryz.prog.info? 42).map (fun i => (i.zero, i.size, i.bytes)) = some (some (.agg #[.string ⟨#[]⟩, .slice none 0 0, .string ⟨#[]⟩]), 3, 56) := by kernel_rfl
theorem Tryz.under36 : Tryz.prog.underlying 36 = some (.slice 42) := by kernel_rfl
theorem Tryz.info39' : (Tryz.prog.info? 39).map (fun i => (i.zero, i.size, i.bytes)) = some (some (.agg #[.string ⟨#[]⟩, .slice none 0 0, .slice none 0 0, .slice none 0 0, .slice none 0 0]), 5, 112) := by kernel_rfl
theorem Tryz.under26 : Tryz.prog.underlying 26 = some (.slice 39) := by kernel_rfl

theorem Frn.start (hl : Live W g N zad zs zcap a) (nm : ByteArray) (n : Nat) : Frn g N zad zs zcap n W (W.heap.size + 1 + 1) nm W.heap.size (W.heap.size + 1) (.slice none 0 0) 0 (fun _ => 0) (fun _ => 0) (((W.alloc (.cells colCells.toArray 33)).alloc (.cells #[.string idL] 9)).alloc (.cells (tabC nm W.heap.size (W.heap.size + 1) (.slice none 0 0)) 39)) a := by
  have e1 : (W.alloc (.cells colCells.toArray 33)).heap.size = W.heap.size + 1 := ex_alloc_size _ _
  have e2 : ((W.alloc (.cells colCells.toArray 33)).alloc (.cells #[.string idL] 9)).heap.size = W.heap.size + 1 + 1 := by rw [ex_alloc_size, e1]
  have b1 : Below W.heap.size W (W.alloc (.cells colCells.toArray 33)) := (Below.refl _ _).alloc (Nat.le_refl _) _
  have b2 := (Below.refl (W.alloc (.cells colCells.toArray 33)).heap.size (W.alloc (.cells colCells.toArray 33))).alloc (Nat.le_refl _) (.cells #[.string idL] 9)
  have b3 := (Below.refl ((W.alloc (.cells colCells.toArray 33)).alloc (.cells #[.string idL] 9)).heap.size ((W.alloc (.cells colCells.toArray 33)).alloc (.cells #[.string idL] 9))).alloc (Nat.le_refl _) (.cells (tabC nm W.heap.size (W.heap.size + 1) (.slice none 0 0)) 39)
  have hb := below_next b1 (below_next b2 b3)
  have c1 := heap_alloc_new' W (.cells colCells.toArray 33)
  have c2 := heap_alloc_new' (W.alloc (.cells colCells.toArray 33)) (.cells #[.string idL] 9)
  have c3 := heap_alloc_new' ((W.alloc (.cells colCells.toArray 33)).alloc (.cells #[.string idL] 9)) (.cells (tabC nm W.heap.size (W.heap.size + 1) (.slice none 0 0)) 39)
  rw [e1] at c2
  rw [e2] at c3
  exact ⟨hl.call hb, Turns.of hb (Nat.le_of_lt hl.lt), hl.lt, c3, by omega, World.ownsRow_nil _ _ _ _, fun _ => rfl, fun j hj => absurd hj (Nat.not_lt_zero j), fun j hj => absurd hj (Nat.not_lt_zero j), fun i j hi => absurd hi (Nat.not_lt_zero i), fun j hj => absurd hj (Nat.not_lt_zero j), heap_kept b3 (heap_kept b2 c1), heap_kept b3 c2, Nat.le_refl _, by omega⟩

/-- A foreign key joins the row, and the row is stored. -/
theorem Frn.append (h : Frn g N zad zs zcap n w0 t nm cbv kbv v k xbv tgv W a) {o : Oper} {A : Act} {K : Act → World → Prop} {Q : Exit → Act → World → Prop} (s z : Operand)
    (ho : o.op = .call { callee := .builtin .append, args := #[s, z], argTypes := #[36, 36] }) {G Q' r : Nat} (hG : W.heap[G]? = some (.cells #[.string xL] 9)) (hGn : w0.heap.size ≤ G) (hGx : ∀ j, j < k → xbv j ≠ G)
    {nk nr : ByteArray} (hnk : nk = ⟨#[UInt8.ofNat (102 + k)]⟩) (hnr : nr = nameL r) (hQ : W.heap[Q']? = some (.cells #[.string nk, .slice (some ⟨G, 0, none⟩) 1 1, .string nr] 42)) (hr : r < n) (hk : k + 1 ≤ 1000) (hs : A.eval s = v) (hz : A.eval z = .slice (some ⟨Q', 0, none⟩) 1 1)
    (hK : ∀ v' W', (∃ ad cap, v' = .slice ad (k + 1) cap) → W'.heap[t]? = some (.cells (tabC nm cbv kbv v) 39) → Frn g N zad zs zcap n w0 t nm cbv kbv v' (k + 1) (fun j => if j = k then G else xbv j) (fun j => if j = k then r else tgv j) (W'.setCell ⟨t, 3, none⟩ v') a → K (A.put o.dst v') W') : o.wp Tryz.prog A W K Q := by
  subst hnk
  subst hnr
  obtain ⟨i, hi, hzz, hsz, hby⟩ := info_parts Tryz.info42'
  have hlt := h.glt
  refine wp_append_own W s z 36 ho w0.heap.size 42 i _ 3 56 Tryz.under36 hi hzz hsz hby rfl (by decide) v k _ hs h.own ⟨Q', 0, none⟩ 1 1 [.string ⟨#[UInt8.ofNat (102 + k)]⟩, .slice (some ⟨G, 0, none⟩) 1 1, .string (nameL r)] hz rfl ?_ ?_ (by unfold maxLen; omega) (by omega) h.turn.size ?_
  · intro j u hj
    match j, hj with
    | 0, hj => simp at hj; subst hj; simp [Addr.add, World.cell?, hQ]
    | 1, hj => simp at hj; subst hj; simp [Addr.add, World.cell?, hQ]
    | 2, hj => simp at hj; subst hj; simp [Addr.add, World.cell?, hQ]
    | (j + 3), hj => simp at hj
  · intro u hu
    simp only [List.mem_cons, List.mem_nil_iff, or_false] at hu
    rcases hu with rfl | rfl | rfl <;> rfl
  · intro v' W' ho' hg _
    have hk' : ∀ (p : Nat) (cs : Array Value) (ty : TypeId), ty ≠ 42 → W.heap[p]? = some (Obj.cells cs ty) → W'.heap[p]? = some (Obj.cells cs ty) := fun p cs ty hty hp => (hg.block p (blk_lt hp) (own_ne h.own hp hty)).trans hp
    have hset : ∀ (p : Nat) (cs : Array Value) (ty : TypeId), ty ≠ 42 → ty ≠ 39 → W.heap[p]? = some (Obj.cells cs ty) → (W'.setCell ⟨t, 3, none⟩ v').heap[p]? = some (Obj.cells cs ty) := fun p cs ty h1 h2 hp => by
      refine (block_set_ne fun e => ?_).trans (hk' p cs ty h1 hp)
      subst e
      rw [h.box] at hp
      simp only [Option.some.injEq, Obj.cells.injEq] at hp
      exact h2 hp.2.1.symm
    have hold : ∀ p, p < w0.heap.size → (W'.setCell ⟨t, 3, none⟩ v').heap[p]? = W.heap[p]? := fun p hp => by
      have hn := h.new
      have := h.turn.size
      exact (block_set_ne (by omega)).trans (hg.block p (by omega) fun e => by have := (own_lt h.own p e.symm).1; omega)
    have hbel : Below w0.heap.size W (W'.setCell ⟨t, 3, none⟩ v') := ⟨hg.os, hg.tape, hg.output, by rw [size_set]; exact hg.size, hold⟩
    have htr : Turns g w0 (W'.setCell ⟨t, 3, none⟩ v') := ⟨Nat.le_trans h.turn.size hbel.size, fun p hp hpg => (hold p hp).trans (h.turn.same p hp hpg), h.turn.below.trans (hbel.mono (by omega))⟩
    have hown : W'.ownsRow w0.heap.size 42 3 v' (k + 1) (upTo (forV (fun j => if j = k then G else xbv j) fun j => nameL (if j = k then r else tgv j)) (k + 1)) := by
      rw [upTo_succ]
      have e : upTo (forV (fun j => if j = k then G else xbv j) fun j => nameL (if j = k then r else tgv j)) k = upTo (forV xbv fun k => nameL (tgv k)) k := upTo_ext fun j hj => by
        unfold forV
        dsimp only
        rw [if_neg (by omega), if_neg (by omega)]
      have e2 : forV (fun j => if j = k then G else xbv j) (fun j => nameL (if j = k then r else tgv j)) k = [.string ⟨#[UInt8.ofNat (102 + k)]⟩, .slice (some ⟨G, 0, none⟩) 1 1, .string (nameL r)] := by
        unfold forV
        dsimp only
        rw [if_pos rfl, if_pos rfl]
      rw [e, e2]
      exact ho'
    refine hK v' W' ?_ (hk' _ _ _ (by decide) h.box) ⟨⟨(hold g hlt).trans h.live.st, h.live.ints.below (hbel.mono (by have := h.live.le; omega)), h.live.le, h.live.len, h.live.pos⟩, htr, hlt, ?_, h.new, ?_, fun e => by omega, fun j hj => ?_, fun j hj => ?_, fun i j hi hj e => ?_, fun j hj => ?_, hset _ _ _ (by decide) (by decide) h.cbc, hset _ _ _ (by decide) (by decide) h.kbc, h.cbn, h.kbn⟩
    · rcases ho'.2 with ⟨_, h0⟩ | ⟨q, cap, cur, rfl, _⟩
      · omega
      · exact ⟨_, _, rfl⟩
    · exact block_set (hk' _ _ _ (by decide) h.box)
    · exact own_keep hown fun q cur _ hc => (block_set_ne fun e => by
        subst e
        rw [hk' _ _ _ (by decide) h.box] at hc
        simp at hc).trans hc
    · show (W'.setCell _ _).heap[if j = k then G else xbv j]? = _
      by_cases e : j = k
      · rw [if_pos e]; exact hset _ _ _ (by decide) (by decide) hG
      · rw [if_neg e]; exact hset _ _ _ (by decide) (by decide) (h.cols j (by omega))
    · show _ ≤ if j = k then G else xbv j
      by_cases e : j = k
      · rw [if_pos e]; exact hGn
      · rw [if_neg e]; exact h.xnew j (by omega)
    · by_cases e1 : i = k
      · by_cases e2 : j = k
        · omega
        · rw [if_pos e1, if_neg e2] at e; exact absurd e.symm (hGx j (by omega))
      · by_cases e2 : j = k
        · rw [if_neg e1, if_pos e2] at e; exact absurd e (hGx i (by omega))
        · rw [if_neg e1, if_neg e2] at e; exact h.xinj i j (by omega) (by omega) e
    · show (if j = k then r else tgv j) < n
      by_cases e : j = k
      · rw [if_pos e]; exact hr
      · rw [if_neg e]; exact h.tgs j (by omega)

end

/-! ### All tables -/

/-- The tables that are done: i of them. -/
structure Tabs (x : Schema) (i : Nat) (W : World) : Prop where
  cols : ∀ j, j < i → W.heap[x.cb j]? = some (.cells colCells.toArray 33)
  keys : ∀ j, j < i → W.heap[x.kb j]? = some (.cells #[.string idL] 9)
  nf2 : ∀ j, j < i → x.nf j ≤ 2
  fors : ∀ j, j < i → 0 < x.nf j → (∃ cur, W.heap[x.fb j]? = some (.cells cur 42) ∧ x.nf j ≤ x.fc j ∧ cur.size = x.fc j * 3 ∧ cur.toList.take (x.nf j * 3) = upTo (forV (x.xb j) fun k => nameL (x.tg j k)) (x.nf j))
  xs : ∀ j, j < i → ∀ k, k < x.nf j → W.heap[x.xb j k]? = some (.cells #[.string xL] 9)
  tgs : ∀ j, j < i → ∀ k, k < x.nf j → x.tg j k < x.n
  cbi : ∀ a b, a < i → b < i → x.cb a = x.cb b → a = b
  kbi : ∀ a b, a < i → b < i → x.kb a = x.kb b → a = b
  xbi : ∀ j, j < i → ∀ a b, a < x.nf j → b < x.nf j → x.xb j a = x.xb j b → a = b

/-- What holds blocks of these three types. -/
def Holds (W W' : World) : Prop := ∀ (p : Nat) (cs : Array Value) (ty : TypeId), ty = 33 ∨ ty = 9 ∨ ty = 42 → W.heap[p]? = some (Obj.cells cs ty) → W'.heap[p]? = some (Obj.cells cs ty)

theorem Tabs.kept {x : Schema} {i : Nat} {W W' : World} (h : Tabs x i W) (hk : Holds W W') : Tabs x i W' :=
  ⟨fun j hj => hk _ _ _ (.inl rfl) (h.cols j hj), fun j hj => hk _ _ _ (.inr (.inl rfl)) (h.keys j hj), h.nf2, fun j hj h0 => by
    obtain ⟨cur, h1, h2⟩ := h.fors j hj h0
    exact ⟨cur, hk _ _ _ (.inr (.inr rfl)) h1, h2⟩, fun j hj k hk' => hk _ _ _ (.inr (.inl rfl)) (h.xs j hj k hk'), h.tgs, h.cbi, h.kbi, h.xbi⟩

/-- A table more. -/
def Schema.put (x : Schema) (i cbv kbv nfv fbv fcv : Nat) (xbv tgv : Nat → Nat) : Schema :=
  { x with cb := fun j => if j = i then cbv else x.cb j, kb := fun j => if j = i then kbv else x.kb j, nf := fun j => if j = i then nfv else x.nf j, fb := fun j => if j = i then fbv else x.fb j, fc := fun j => if j = i then fcv else x.fc j, xb := fun j => if j = i then xbv else x.xb j, tg := fun j => if j = i then tgv else x.tg j }

theorem Schema.put_F (x : Schema) (i cbv kbv nfv fbv fcv : Nat) (xbv tgv : Nat → Nat) {j : Nat} (h : j ≠ i) : (x.put i cbv kbv nfv fbv fcv xbv tgv).F j = x.F j := by
  unfold Schema.F Schema.put
  simp [h]

theorem Schema.put_tabs (x : Schema) (i cbv kbv nfv fbv fcv : Nat) (xbv tgv : Nat → Nat) : upTo (tabV (x.put i cbv kbv nfv fbv fcv xbv tgv).cb (x.put i cbv kbv nfv fbv fcv xbv tgv).kb (x.put i cbv kbv nfv fbv fcv xbv tgv).F) i = upTo (tabV x.cb x.kb x.F) i := upTo_ext fun j hj => by
  unfold tabV
  rw [Schema.put_F _ _ _ _ _ _ _ _ _ (by omega)]
  have : j ≠ i := by omega
  simp [Schema.put, this]

theorem Tabs.put {x : Schema} {i cbv kbv nfv fbv fcv : Nat} {xbv tgv : Nat → Nat} {w0 W : World} (h : Tabs x i W) (hsz : ∀ j, j < i → x.cb j < w0.heap.size ∧ x.kb j < w0.heap.size)
    (c1 : W.heap[cbv]? = some (.cells colCells.toArray 33)) (c2 : W.heap[kbv]? = some (.cells #[.string idL] 9)) (c3 : w0.heap.size ≤ cbv) (c4 : w0.heap.size ≤ kbv) (hn : nfv ≤ 2)
    (hf : 0 < nfv → (∃ cur, W.heap[fbv]? = some (.cells cur 42) ∧ nfv ≤ fcv ∧ cur.size = fcv * 3 ∧ cur.toList.take (nfv * 3) = upTo (forV xbv fun k => nameL (tgv k)) nfv)) (hx : ∀ k, k < nfv → W.heap[xbv k]? = some (.cells #[.string xL] 9))
    (ht : ∀ k, k < nfv → tgv k < x.n) (hi : ∀ a b, a < nfv → b < nfv → xbv a = xbv b → a = b) : Tabs (x.put i cbv kbv nfv fbv fcv xbv tgv) (i + 1) W := by
  refine ⟨fun j hj => ?_, fun j hj => ?_, fun j hj => ?_, fun j hj => ?_, fun j hj => ?_, fun j hj => ?_, fun a b ha hb e => ?_, fun a b ha hb e => ?_, fun j hj => ?_⟩
  · by_cases e : j = i
    · simpa [Schema.put, e] using c1
    · simpa [Schema.put, e] using h.cols j (by omega)
  · by_cases e : j = i
    · simpa [Schema.put, e] using c2
    · simpa [Schema.put, e] using h.keys j (by omega)
  · by_cases e : j = i
    · simpa [Schema.put, e] using hn
    · simpa [Schema.put, e] using h.nf2 j (by omega)
  · by_cases e : j = i
    · simpa [Schema.put, e] using hf
    · simpa [Schema.put, e] using h.fors j (by omega)
  · by_cases e : j = i
    · simpa [Schema.put, e] using hx
    · simpa [Schema.put, e] using h.xs j (by omega)
  · by_cases e : j = i
    · simpa [Schema.put, e] using ht
    · simpa [Schema.put, e] using h.tgs j (by omega)
  · simp only [Schema.put] at e
    by_cases e1 : a = i <;> by_cases e2 : b = i
    · omega
    · rw [if_pos e1, if_neg e2] at e; have := (hsz b (by omega)).1; omega
    · rw [if_neg e1, if_pos e2] at e; have := (hsz a (by omega)).1; omega
    · rw [if_neg e1, if_neg e2] at e; exact h.cbi a b (by omega) (by omega) e
  · simp only [Schema.put] at e
    by_cases e1 : a = i <;> by_cases e2 : b = i
    · omega
    · rw [if_pos e1, if_neg e2] at e; have := (hsz b (by omega)).2; omega
    · rw [if_neg e1, if_pos e2] at e; have := (hsz a (by omega)).2; omega
    · rw [if_neg e1, if_neg e2] at e; exact h.kbi a b (by omega) (by omega) e
  · by_cases e : j = i
    · simpa [Schema.put, e] using hi
    · simpa [Schema.put, e] using h.xbi j (by omega)

theorem split_take {cur : Array Value} {m : Nat} {xs : List Value} (h : cur.toList.take m = xs) : cur = (xs ++ cur.toList.drop m).toArray := by
  rw [← h, List.take_append_drop]

theorem ty_ne {W : World} {p q : Nat} {c d : Array Value} {s t : TypeId} {f e : Nat × Nat} (h1 : W.heap[p]? = some (.cells c s f)) (h2 : W.heap[q]? = some (.cells d t e)) (hn : s ≠ t) : p ≠ q := fun he => by
  subst he
  rw [h1] at h2
  simp only [Option.some.injEq, Obj.cells.injEq] at h2
  exact hn h2.2.1

/-- All tables are done: the schema. -/
theorem Tabs.at' {x : Schema} {W : World} {B : Nat} (h : Tabs x x.n W) (h6 : x.n ≤ 6) (ho : W.ownsRow B 39 5 (.slice (some ⟨x.tb, 0, none⟩) x.n x.cap) x.n (upTo (tabV x.cb x.kb x.F) x.n)) : x.At W := by
  obtain ⟨_, ⟨hv, _⟩ | ⟨g, cap, cur, hv, hb, hg, hnc, _, hcs, htake⟩⟩ := ho
  · cases hv
  cases hv
  have hk2 : ∀ j, j < x.n → ∀ i, i < x.n → ∀ k, k < x.nf i → x.kb j ≠ x.xb i k := fun j hj i hi k hk e => by
    have a1 := h.keys j hj
    have a2 := h.xs i hi k hk
    rw [e, a2] at a1
    simp [xL, idL] at a1
  have hnd : (bsOf x.n x.tb x.cb x.kb).Nodup := by
    unfold bsOf
    rw [List.nodup_cons]
    have hp : ∀ m, m ≤ x.n → ∀ p, p ∈ upTo (fun j => [x.cb j, x.kb j]) m → ∃ j, j < m ∧ (p = x.cb j ∨ p = x.kb j) := by
      intro m
      induction m with
      | zero => intro _ p hp; cases hp
      | succ m ih =>
        intro hm p hp
        rw [upTo_succ, List.mem_append] at hp
        rcases hp with hp | hp
        · obtain ⟨j, h1, h2⟩ := ih (by omega) p hp
          exact ⟨j, by omega, h2⟩
        · simp only [List.mem_cons, List.mem_nil_iff, or_false] at hp
          exact ⟨m, by omega, hp⟩
    refine ⟨fun hm => ?_, ?_⟩
    · obtain ⟨j, hj, e | e⟩ := hp x.n (Nat.le_refl _) _ hm
      · exact ty_ne hg (h.cols j hj) (by decide) e
      · exact ty_ne hg (h.keys j hj) (by decide) e
    · have : ∀ m, m ≤ x.n → (upTo (fun j => [x.cb j, x.kb j]) m).Nodup := by
        intro m
        induction m with
        | zero => intro _; exact List.nodup_nil
        | succ m ih =>
          intro hm
          rw [upTo_succ, List.nodup_append]
          refine ⟨ih (by omega), ?_, fun p hp' q hq e => ?_⟩
          · have := ty_ne (h.cols m (by omega)) (h.keys m (by omega)) (by decide)
            simp [this]
          · subst e
            obtain ⟨j, hj, e⟩ := hp m (by omega) p hp'
            simp only [List.mem_cons, List.mem_nil_iff, or_false] at hq
            rcases e with e | e <;> rcases hq with hq | hq
            · have := h.cbi j m (by omega) (by omega) (e.symm.trans hq); omega
            · exact ty_ne (h.cols j (by omega)) (h.keys m (by omega)) (by decide) (e.symm.trans hq)
            · exact ty_ne (h.keys j (by omega)) (h.cols m (by omega)) (by decide) (e.symm.trans hq)
            · have := h.kbi j m (by omega) (by omega) (e.symm.trans hq); omega
      exact this x.n (Nat.le_refl _)
  have hmem : ∀ p, p ∈ bsOf x.n x.tb x.cb x.kb → p = x.tb ∨ ∃ j, j < x.n ∧ (p = x.cb j ∨ p = x.kb j) := by
    intro p hp
    unfold bsOf at hp
    rw [List.mem_cons] at hp
    rcases hp with hp | hp
    · exact .inl hp
    · right
      have : ∀ m, p ∈ upTo (fun j => [x.cb j, x.kb j]) m → ∃ j, j < m ∧ (p = x.cb j ∨ p = x.kb j) := by
        intro m
        induction m with
        | zero => intro hp; cases hp
        | succ m ih =>
          intro hp
          rw [upTo_succ, List.mem_append] at hp
          rcases hp with hp | hp
          · obtain ⟨j, h1, h2⟩ := ih hp
            exact ⟨j, by omega, h2⟩
          · simp only [List.mem_cons, List.mem_nil_iff, or_false] at hp
            exact ⟨m, by omega, hp⟩
      exact this _ hp
  have hxm : ∀ i m p, p ∈ upTo (fun k => [x.xb i k]) m → ∃ k, k < m ∧ p = x.xb i k := by
    intro i m p
    induction m with
    | zero => intro hp; cases hp
    | succ m ih =>
      intro hp
      rw [upTo_succ, List.mem_append] at hp
      rcases hp with hp | hp
      · obtain ⟨k, h1, h2⟩ := ih hp
        exact ⟨k, by omega, h2⟩
      · exact ⟨m, by omega, List.mem_singleton.mp hp⟩
  refine ⟨h6, ⟨⟨_, _, by rw [← split_take htake]; exact hg, by rw [← htake, List.take_append_drop, Array.length_toList, hcs]; omega⟩, hnc, fun j hj => ⟨_, h.cols j hj⟩, fun j hj => ⟨_, h.keys j hj⟩, hnd, fun j hj => ?_⟩, h.nf2, fun i hi h0 => ?_, h.tgs, fun i hi h0 => ?_⟩
  · obtain ⟨ad, c, hF, _⟩ := x.F_at j
    rw [hF]; rfl
  · obtain ⟨cur', g1, g2, g3, g4⟩ := h.fors i hi h0
    exact ⟨⟨_, _, by rw [← split_take g4]; exact g1, by rw [← g4, List.take_append_drop, Array.length_toList, g3]; omega⟩, g2, fun k hk => ⟨_, h.xs i hi k hk⟩⟩
  · obtain ⟨cur', g1, _⟩ := h.fors i hi h0
    rw [List.nodup_append]
    refine ⟨hnd, ?_, fun p hp q hq e => ?_⟩
    · rw [List.nodup_cons]
      refine ⟨fun hm => ?_, ?_⟩
      · obtain ⟨k, hk, e⟩ := hxm i _ _ hm
        exact ty_ne g1 (h.xs i hi k hk) (by decide) e
      · have : ∀ m, m ≤ x.nf i → (upTo (fun k => [x.xb i k]) m).Nodup := by
          intro m
          induction m with
          | zero => intro _; exact List.nodup_nil
          | succ m ih =>
            intro hm
            rw [upTo_succ, List.nodup_append]
            refine ⟨ih (by omega), by simp, fun p hp' q hq e => ?_⟩
            subst e
            obtain ⟨k, hk, e⟩ := hxm i m p hp'
            have e2 := List.mem_singleton.mp hq
            have := h.xbi i hi k m (by omega) (by omega) (e.symm.trans e2)
            omega
        exact this _ (Nat.le_refl _)
    · subst e
      rw [List.mem_cons] at hq
      rcases hmem p hp with e1 | ⟨j, hj, e1 | e1⟩ <;> rcases hq with e2 | hq
      · exact ty_ne hg g1 (by decide) (e1.symm.trans e2)
      · obtain ⟨k, hk, e2⟩ := hxm i _ _ hq
        exact ty_ne hg (h.xs i hi k hk) (by decide) (e1.symm.trans e2)
      · exact ty_ne (h.cols j hj) g1 (by decide) (e1.symm.trans e2)
      · obtain ⟨k, hk, e2⟩ := hxm i _ _ hq
        exact ty_ne (h.cols j hj) (h.xs i hi k hk) (by decide) (e1.symm.trans e2)
      · exact ty_ne (h.keys j hj) g1 (by decide) (e1.symm.trans e2)
      · obtain ⟨k, hk, e2⟩ := hxm i _ _ hq
        exact hk2 j hj i hi k hk (e1.symm.trans e2)

/-- Of the schema on its way: i tables are in. -/
structure Bld (g N : Nat) (zad : Option Addr) (zs : List Int) (zcap : Nat) (W0 : World) (x : Schema) (i : Nat) (v : Value) (W : World) (a : Int) : Prop where
  live : Live W g N zad zs zcap a
  below : Below W0.heap.size W0 W
  le : W0.heap.size ≤ g
  xbox : W.heap[g + 1]? = some (.cells #[v] 28)
  own : W.ownsRow (g + 2) 39 5 v i (upTo (tabV x.cb x.kb x.F) i)
  tabs : Tabs x i W

def fVal (k fb fc : Nat) : Value := match k with
  | 0 => .slice none 0 0
  | m + 1 => .slice (some ⟨fb, 0, none⟩) (m + 1) fc

theorem Schema.F_val (x : Schema) (i : Nat) : x.F i = fVal (x.nf i) (x.fb i) (x.fc i) := rfl

section
variable {g N : Nat} {zad : Option Addr} {zs : List Int} {zcap n : Nat} {w0 : World} {t : Nat} {nm : ByteArray} {cbv kbv : Nat} {v : Value} {k : Nat} {xbv tgv : Nat → Nat} {W W' : World} {a b : Int}

theorem Frn.fin (h : Frn g N zad zs zcap n w0 t nm cbv kbv v k xbv tgv W a) : ∃ fb fc, v = fVal k fb fc ∧ (0 < k → (∃ cur, W.heap[fb]? = some (.cells cur 42) ∧ k ≤ fc ∧ cur.size = fc * 3 ∧ cur.toList.take (k * 3) = upTo (forV xbv fun k => nameL (tgv k)) k)) := by
  cases k with
  | zero => exact ⟨0, 0, h.nil rfl, fun h => absurd h (Nat.lt_irrefl _)⟩
  | succ m =>
    obtain ⟨_, ⟨_, h0⟩ | ⟨q, cap, cur, hv, _, hg, hnc, _, hcs, htake⟩⟩ := h.own
    · omega
    · exact ⟨q, cap, hv, fun _ => ⟨cur, hg, hnc, hcs, htake⟩⟩

theorem Bld.step {W0 W1 : World} {x : Schema} {i : Nat} {vf : Value} (h : Bld g N zad zs zcap W0 x i v W1 a) (hF : Frn g N zad zs zcap x.n W1 t (nameL i) cbv kbv vf k xbv tgv W b) {o : Oper} {A : Act} {K : Act → World → Prop} {Q : Exit → Act → World → Prop} (s z : Operand)
    (ho : o.op = .call { callee := .builtin .append, args := #[s, z], argTypes := #[26, 26] }) {Q' : Nat} (hQ : W.heap[Q']? = some (.cells (tabC (nameL i) cbv kbv vf) 39)) (hi : i + 1 ≤ 1000) (hk : k ≤ 2) (hs : A.eval s = v) (hz : A.eval z = .slice (some ⟨Q', 0, none⟩) 1 1)
    (hK : ∀ v' W' x', x'.n = x.n → (∃ ad cap, v' = .slice ad (i + 1) cap) → W'.heap[g + 1]? = some (.cells #[v] 28) → Bld g N zad zs zcap W0 x' (i + 1) v' (W'.setCell ⟨g + 1, 0, none⟩ v') b → K (A.put o.dst v') W') : o.wp Tryz.prog A W K Q := by
  obtain ⟨ti, hti, hzz, hsz, hby⟩ := info_parts Tryz.info39'
  have hglt := h.live.lt
  have hle := h.le
  have hx1 := blk_lt h.xbox
  have hsz1 := hF.turn.size
  have hown : W.ownsRow (g + 2) 39 5 v i (upTo (tabV x.cb x.kb x.F) i) := own_keep h.own fun q cur hq hc => hF.turn.block hc (by omega)
  have hxb : W.heap[g + 1]? = some (.cells #[v] 28) := hF.turn.block h.xbox (by omega)
  have htabs : Tabs x i W := h.tabs.kept fun p cs ty hty hp => hF.turn.block hp fun e => by
    subst e
    have := h.live.st
    unfold Strm at this
    rw [this] at hp
    simp only [Option.some.injEq, Obj.cells.injEq] at hp
    rcases hty with h | h | h <;> rw [h] at hp <;> exact absurd hp.2.1 (by decide)
  have hbelow : Below W0.heap.size W0 W := h.below.trans (hF.turn.below.mono hle)
  obtain ⟨fb, fc, hvf, hff⟩ := hF.fin
  have hcells : ∀ j u, (tabC (nameL i) cbv kbv vf).toList[j]? = some u → W.cell? ((⟨Q', 0, none⟩ : Addr).add j) = some u := fun j u hj => by
    have : (⟨Q', 0, none⟩ : Addr).add j = ⟨Q', 0 + j, none⟩ := by unfold Addr.add; split <;> simp_all
    rw [this, Nat.zero_add]
    simp only [World.cell?, hQ]
    rwa [Array.getElem?_toList] at hj
  refine wp_append_own W s z 26 ho (g + 2) 39 ti _ 5 112 Tryz.under26 hti hzz hsz hby rfl (by decide) v i _ hs hown ⟨Q', 0, none⟩ 1 1 (tabC (nameL i) cbv kbv vf).toList hz rfl hcells ?_ (by unfold maxLen; omega) (by omega) (by omega) ?_
  · intro u hu
    simp only [tabC, List.mem_cons, List.mem_nil_iff, or_false] at hu
    rcases hu with rfl | rfl | rfl | rfl | rfl
    · rfl
    · rfl
    · rfl
    · rw [hvf]; unfold fVal; split <;> rfl
    · rfl
  · intro v' W' ho' hg _
    have hk' : ∀ (p : Nat) (cs : Array Value) (ty : TypeId), ty ≠ 39 → W.heap[p]? = some (Obj.cells cs ty) → W'.heap[p]? = some (Obj.cells cs ty) := fun p cs ty hty hp => (hg.block p (blk_lt hp) (own_ne hown hp hty)).trans hp
    have hset : ∀ (p : Nat) (cs : Array Value) (ty : TypeId), ty ≠ 39 → ty ≠ 28 → W.heap[p]? = some (Obj.cells cs ty) → (W'.setCell ⟨g + 1, 0, none⟩ v').heap[p]? = some (Obj.cells cs ty) := fun p cs ty h1 h2 hp => by
      refine (block_set_ne fun e => ?_).trans (hk' p cs ty h1 hp)
      subst e
      rw [hxb] at hp
      simp only [Option.some.injEq, Obj.cells.injEq] at hp
      exact h2 hp.2.1.symm
    have hholds : Holds W (W'.setCell ⟨g + 1, 0, none⟩ v') := fun p cs ty hty hp => hset p cs ty (by rcases hty with h | h | h <;> rw [h] <;> decide) (by rcases hty with h | h | h <;> rw [h] <;> decide) hp
    have hold : ∀ p, p ≤ g → (W'.setCell ⟨g + 1, 0, none⟩ v').heap[p]? = W.heap[p]? := fun p hp =>
      (block_set_ne (by omega)).trans (hg.block p (by omega) fun e => by have := (own_lt hown p e.symm).1; omega)
    have hbel : Below g W (W'.setCell ⟨g + 1, 0, none⟩ v') := ⟨hg.os, hg.tape, hg.output, by rw [size_set]; exact hg.size, fun p hp => hold p (by omega)⟩
    have hxk := hk' _ _ _ (by decide) hxb
    have hT : Tabs (x.put i cbv kbv k fb fc xbv tgv) (i + 1) (W'.setCell ⟨g + 1, 0, none⟩ v') :=
      (Tabs.put (w0 := W1) htabs (fun j hj => ⟨blk_lt (h.tabs.cols j hj), blk_lt (h.tabs.keys j hj)⟩) hF.cbc hF.kbc hF.cbn hF.kbn hk hff hF.cols hF.tgs hF.xinj).kept hholds
    refine hK v' W' (x.put i cbv kbv k fb fc xbv tgv) rfl ?_ hxk ⟨⟨(hold g (Nat.le_refl _)).trans hF.live.st, hF.live.ints.below (hbel.mono hF.live.le), hF.live.le, hF.live.len, hF.live.pos⟩, hbelow.trans (hbel.mono hle), hle, block_set hxk, ?_, hT⟩
    · rcases ho'.2 with ⟨_, h0⟩ | ⟨q, cap, cur, rfl, _⟩
      · omega
      · exact ⟨_, _, rfl⟩
    · rw [upTo_succ, Schema.put_tabs]
      have e : tabV (x.put i cbv kbv k fb fc xbv tgv).cb (x.put i cbv kbv k fb fc xbv tgv).kb (x.put i cbv kbv k fb fc xbv tgv).F i = (tabC (nameL i) cbv kbv vf).toList := by
        unfold tabV tabC
        rw [Schema.F_val, hvf]
        simp [Schema.put]
      rw [e]
      exact own_keep ho' fun q cur hq hc => (block_set_ne fun he => by
        subst he
        omega).trans hc

theorem Bld.stepL {W0 W1 : World} {x : Schema} {i : Nat} {vf : Value} {ops : Array Oper} {rest : List Oper} {o : Oper} {A : Act} {R : Exit → Act → World → Prop} (hgd : o.guard = none) (s z : Operand)
    (ho : o.op = .call { callee := .builtin .append, args := #[s, z], argTypes := #[26, 26] }) (h : Bld g N zad zs zcap W0 x i v W1 a) (hF : Frn g N zad zs zcap x.n W1 t (nameL i) cbv kbv vf k xbv tgv W b) (hi : i + 1 ≤ 1000) (hk : k ≤ 2)
    {cs : Array Value} (hcs : cs = tabC (nameL i) cbv kbv vf) (hs : A.eval s = v) (hz : ∃ G, A.eval z = .slice (some ⟨G, 0, none⟩) 1 1 ∧ W.heap.size = G)
    (hK : ∀ v' W' x', x'.n = x.n → (∃ ad cap, v' = .slice ad (i + 1) cap) → W'.heap[g + 1]? = some (.cells #[v] 28) → Bld g N zad zs zcap W0 x' (i + 1) v' (W'.setCell ⟨g + 1, 0, none⟩ v') b → wpList Tryz.prog ops R rest (A.put o.dst v') W') :
    wpList Tryz.prog ops R (o :: rest) A (W.alloc (.cells cs 39)) := by
  subst hcs
  obtain ⟨G, hz, rfl⟩ := hz
  exact wpList_plain hgd fun _ hk' => Bld.step h (hF.call ((Below.refl _ _).alloc (Nat.le_refl _) _)) s z ho (heap_alloc_new' W _) hi hk hs hz fun v' W' x' h1 h2 h3 h4 => hk' _ _ (hK v' W' x' h1 h2 h3 h4)

theorem Frn.slice (h : Frn g N zad zs zcap n w0 t nm cbv kbv v k xbv tgv W a) : ∃ ad c, v = .slice ad k c := by
  obtain ⟨_, ⟨hv, h0⟩ | ⟨q, cap, cur, hv, _⟩⟩ := h.own
  · exact ⟨none, 0, by rw [hv, h0]⟩
  · exact ⟨_, _, hv⟩

theorem Frn.cells (h : Frn g N zad zs zcap n w0 t nm cbv kbv v k xbv tgv W a) : W.cell? ⟨t, 0, none⟩ = some (.string nm) ∧ W.cell? ⟨t, 1, none⟩ = some (.slice (some ⟨cbv, 0, none⟩) 2 2) ∧ W.cell? ⟨t, 2, none⟩ = some (.slice (some ⟨kbv, 0, none⟩) 1 1) ∧ W.cell? ⟨t, 3, none⟩ = some v ∧ W.cell? ⟨t, 4, none⟩ = some (.slice none 0 0) := by
  have := h.box
  unfold tabC at this
  refine ⟨?_, ?_, ?_, ?_, ?_⟩ <;> simp [World.cell?, this]

theorem Bld.at' {W0 : World} {x : Schema} (h : Bld g N zad zs zcap W0 x x.n v W a) (h1 : 1 ≤ x.n) (h6 : x.n ≤ 6) : ∃ x' : Schema, x'.n = x.n ∧ x'.At W ∧ v = .slice (some ⟨x'.tb, 0, none⟩) x'.n x'.cap := by
  obtain ⟨hl, ⟨_, h0⟩ | ⟨q, cap, cur, rfl, hr⟩⟩ := h.own
  · omega
  · have ht := h.tabs
    exact ⟨{ x with tb := q, cap := cap }, rfl, Tabs.at' (B := g + 2) (x := { x with tb := q, cap := cap }) ⟨ht.cols, ht.keys, ht.nf2, ht.fors, ht.xs, ht.tgs, ht.cbi, ht.kbi, ht.xbi⟩ h6 ⟨hl, .inr ⟨q, cap, cur, rfl, hr⟩⟩, rfl⟩

end

end Go.Proofs
