/- A row of bytes that the call owns; of package value: Key. No condition. -/
import Derived.Lib.AppendStr
import Derived.Lib.UnsafeStr
import Derived.Below
import Derived.Deep.Draws
import Derived.WalkKit
import Derived.Test.YtmnlcldhhlkpeaaGreatDoorLit
import Derived.Test.YtmnlcldhhlkpeaaGreatDoorOm
namespace Go.Proofs
open Go.RowKit Go.Lib

/-- In w the slice v owns n elements, the cells xs, in a block from B on; of what lay below B in W0 nothing has turned. -/
def Own (B : Nat) (e : TypeId) (sz : Nat) (v : Value) (n : Nat) (xs : List Value) (W0 w : World) : Prop :=
  w.ownsRow B e sz v n xs ∧ Below B W0 w ∧ B ≤ w.heap.size

section
variable {B : Nat} {e : TypeId} {sz : Nat} {v : Value} {n : Nat} {xs : List Value} {W0 w : World}

theorem Own.start (W0 : World) (e : TypeId) (sz : Nat) : Own W0.heap.size e sz (.slice none 0 0) 0 [] W0 W0 := ⟨World.ownsRow_nil _ _ _ _, Below.refl _ _, Nat.le_refl _⟩

theorem own_lt (h : w.ownsRow B e sz v n xs) : ∀ k, v.ownBlock = some k → B ≤ k ∧ k < w.heap.size := by
  intro k hk
  rcases h.2 with ⟨rfl, _⟩ | ⟨g, cap, cur, rfl, hb, hg, _⟩
  · simp [Value.ownBlock] at hk
  · simp [Value.ownBlock] at hk
    subst hk
    exact ⟨hb, (Array.getElem?_eq_some_iff.1 hg).1⟩

theorem own_ne (h : w.ownsRow B e sz v n xs) {g : Nat} {cs : Array Value} {t : TypeId} {fr : Nat × Nat} (hg : w.heap[g]? = some (.cells cs t fr)) (hne : t ≠ e) : some g ≠ v.ownBlock := by
  rcases h.2 with ⟨rfl, _⟩ | ⟨g', cap, cur, rfl, hb, hgg, _⟩
  · simp [Value.ownBlock]
  · simp only [Value.ownBlock, ne_eq, Option.some.injEq]
    rintro rfl
    rw [hgg] at hg
    simp only [Option.some.injEq, Obj.cells.injEq] at hg
    exact hne hg.2.1.symm

theorem grown_of_below {w' : World} (h : Below w.heap.size w w') (row : Option Nat) : w.grownBy w' row := ⟨h.os, h.tape, h.output, h.size, fun i hi _ => h.block i hi⟩

theorem Own.call {w' : World} (h : Own B e sz v n xs W0 w) (hb : Below w.heap.size w w') : Own B e sz v n xs W0 w' :=
  ⟨h.1.kept (grown_of_below hb none) (by cases hv : v.ownBlock <;> simp), h.2.1.trans (hb.mono h.2.2), Nat.le_trans h.2.2 hb.size⟩

theorem Own.alloc (h : Own B e sz v n xs W0 w) (o : Obj) : Own B e sz v n xs W0 (w.alloc o) := h.call ((Below.refl _ _).alloc (Nat.le_refl _) o)

theorem Own.drew (h : Own B e sz v n xs W0 w) : Own B e sz v n xs W0 w.drew := h.call (Below.refl _ _).drew

theorem Own.drewN (h : Own B e sz v n xs W0 w) (k : Nat) : Own B e sz v n xs W0 (w.drewN k) := h.call ⟨rfl, rfl, rfl, Nat.le_refl _, fun _ _ => rfl⟩

theorem block_set' {W : World} {g i : Nat} {x : Value} {cs : Array Value} {t : TypeId} {fr : Nat × Nat} (h : W.heap[g]? = some (.cells cs t fr)) : (W.setCell ⟨g, i, none⟩ x).heap[g]? = some (.cells (cs.setIfInBounds i x) t fr) := by
  simp [World.setCell, Array.getElem?_modify, h]

theorem Own.set (h : Own B e sz v n xs W0 w) {g : Nat} {cs : Array Value} {t : TypeId} {fr : Nat × Nat} (hg : w.heap[g]? = some (.cells cs t fr)) (hne : t ≠ e) (hB : B ≤ g) (i : Nat) (x : Value) : Own B e sz v n xs W0 (w.setCell ⟨g, i, none⟩ x) :=
  ⟨h.1.kept (row := some g) ⟨rfl, rfl, rfl, by simp [World.setCell], fun k _ hk => Below.heap_setCell w _ x k (fun e => hk (by rw [e]))⟩ (.inr (Ne.symm (own_ne h.1 hg hne))),
    h.2.1.setCell hB x, by simpa [World.setCell] using h.2.2⟩

/-- Blocks of another type are as they were. -/
def Boxes (t : TypeId) (w w' : World) : Prop := w.heap.size ≤ w'.heap.size ∧ ∀ (g : Nat) (cs : Array Value) (fr : Nat × Nat), w.heap[g]? = some (Obj.cells cs t fr) → w'.heap[g]? = some (Obj.cells cs t fr)

theorem Own.grown {w' : World} {v' : Value} {n' : Nat} {xs' : List Value} (h : Own B e sz v n xs W0 w) (ho : w'.ownsRow B e sz v' n' xs') (hg : w.grownBy w' v.ownBlock) : Own B e sz v' n' xs' W0 w' :=
  ⟨ho, h.2.1.grown hg h.2.2 (fun k hk => (own_lt h.1 k hk).1), Nat.le_trans h.2.2 hg.size⟩

theorem Own.boxes {w' : World} (h : Own B e sz v n xs W0 w) (hg : w.grownBy w' v.ownBlock) {t : TypeId} (hne : t ≠ e) : Boxes t w w' :=
  ⟨hg.size, fun g _ _ hh => (hg.block g (Array.getElem?_eq_some_iff.1 hh).1 (own_ne h.1 hh hne)).trans hh⟩

end

section
variable {P : Program}

/-- 'buf = append(buf, c)', c a byte; boxes of type u stay. -/
theorem append_byte {ops : Array Oper} {rest : List Oper} {o : Oper} {a : Act} {Q : Exit → Act → World → Prop} (hgd : o.guard = none) (s x : Operand) (t : TypeId)
    (ho : o.op = .call { callee := .builtin .append, args := #[s, x], argTypes := #[t, t] })
    (B : Nat) (e u : TypeId) (hne : u ≠ e) (i : TypeInfo) (ht : P.underlying t = some (.slice e)) (hi : P.info? e = some i) (hz : i.zero = some (.int .u8 0)) (hsize : i.size = 1) (hby : i.bytes = 1)
    (v : Value) (n : Nat) (xs : List Value) (hs : a.eval s = v) (W0 w0 : World) (c : Int) (hb : Own B e 1 v n xs W0 w0)
    (hx : a.eval x = .slice (some ⟨w0.heap.size, 0, none⟩) 1 1) (hlen : n + 1 ≤ 140737488355328)
    (h : ∀ v' w', Own B e 1 v' (n + 1) (xs ++ [.int .u8 c]) W0 w' → Boxes u w0 w' → wpList P ops Q rest (a.put o.dst v') w') : wpList P ops Q (o :: rest) a (w0.alloc (.cells #[.int .u8 c] e)) := by
  have hb' := hb.alloc (.cells #[.int .u8 c] e)
  refine wpList_append_own _ hgd s x t ho B e i (.int .u8 0) 1 1 ht hi hz hsize hby rfl (by decide) v n xs hs hb'.1 ⟨w0.heap.size, 0, none⟩ 1 1 [.int .u8 c] hx rfl ?_ ?_ (by unfold maxLen; omega) (by omega) hb'.2.2 ?_
  · intro j y hj
    match j, hj with
    | 0, hj => simp at hj; subst hj; simp [Addr.add]
    | (j + 1), hj => simp at hj
  · intro y hy; simp at hy; subst hy; rfl
  · intro v' w' ho' hg _
    have hbx := hb'.boxes hg hne
    exact h v' w' (hb'.grown ho' hg) ⟨Nat.le_trans (by unfold World.alloc; simp) hbx.1, fun g cs fr hh => hbx.2 g cs fr ((heap_alloc_old w0 _ (Array.getElem?_eq_some_iff.1 hh).1).trans hh)⟩

/-- 'buf = append(buf, s...)', s a string; boxes of type u stay. -/
theorem append_text {ops : Array Oper} {rest : List Oper} {o : Oper} {a : Act} {Q : Exit → Act → World → Prop} {w : World} (hgd : o.guard = none) (sl x : Operand) (t ts : TypeId)
    (ho : o.op = .call { callee := .builtin .append, args := #[sl, x], argTypes := #[t, ts] })
    (B : Nat) (e u : TypeId) (hne : u ≠ e) (i : TypeInfo) (ht : P.underlying t = some (.slice e)) (hts : P.underlying ts = some .string) (hi : P.info? e = some i) (hz : i.zero = some (.int .u8 0)) (hsize : i.size = 1) (hby : i.bytes = 1)
    (v : Value) (n : Nat) (xs : List Value) (hs : a.eval sl = v) (W0 : World) (hb : Own B e 1 v n xs W0 w) (s : ByteArray) (hx : a.eval x = .string s) (hlen : n + s.size ≤ 140737488355328)
    (h : ∀ v' w', Own B e 1 v' (n + s.size) (xs ++ strCells s) W0 w' → Boxes u w w' → wpList P ops Q rest (a.put o.dst v') w') : wpList P ops Q (o :: rest) a w := by
  refine wpList_append_own_string w hgd sl x t ts ho B e i ht hts hi hz hsize hby v n xs hs hb.1 s hx (by unfold maxLen; omega) hlen hb.2.2 ?_
  intro v' w' ho' hg _
  exact h v' w' (hb.grown ho' hg) (hb.boxes hg hne)

end
end Go.Proofs

namespace Go.Proofs
open Go.RowKit
open Go.Lib (byteCells strCells)

def be8 (N : Int) : List UInt8 := [UInt8.ofNat (N / 72057594037927936 % 256).toNat, UInt8.ofNat (N / 281474976710656 % 256).toNat, UInt8.ofNat (N / 1099511627776 % 256).toNat, UInt8.ofNat (N / 4294967296 % 256).toNat,
  UInt8.ofNat (N / 16777216 % 256).toNat, UInt8.ofNat (N / 65536 % 256).toNat, UInt8.ofNat (N / 256 % 256).toNat, UInt8.ofNat (N % 256).toNat]

def keyOf (x : Val) : List UInt8 := if x.k = 0 then [0] else if x.k = 3 then 3 :: (x.s.data.toList ++ [0]) else UInt8.ofNat x.k.toNat :: be8 (x.n + 4611686018427387904)

def keyL (l : List Val) : List UInt8 := l.flatMap fun x => keyOf x.plain

theorem keyL_take {l : List Val} {k : Nat} (h : k < l.length) : keyL (l.take (k + 1)) = keyL (l.take k) ++ keyOf l[k].plain := by
  unfold keyL
  rw [List.take_succ_eq_append_getElem h, List.flatMap_append]
  simp

theorem keyOf_length (x : Val) : (keyOf x.plain).length ≤ 102 := by
  obtain ⟨_, _, _, _, h⟩ := plain_bounds x
  unfold keyOf
  split
  · simp
  · split
    · have : x.plain.s.data.toList.length = x.plain.s.size := Array.length_toList
      simp only [List.length_cons, List.length_append, List.length_nil]
      omega
    · simp [be8]

theorem keyL_length (l : List Val) : (keyL l).length ≤ 102 * l.length := by
  induction l with
  | nil => simp [keyL]
  | cons x l ih =>
    have h := keyOf_length x
    have e : keyL (x :: l) = keyOf x.plain ++ keyL l := rfl
    rw [e, List.length_append, List.length_cons]
    omega

theorem byte_toNat (m : Int) : (((UInt8.ofNat (m % 256).toNat).toNat : Nat) : Int) = m % 256 := by
  have h1 := Int.emod_nonneg m (show (256 : Int) ≠ 0 by omega)
  have h2 := Int.emod_lt_of_pos m (show (0 : Int) < 256 by omega)
  rw [UInt8.toNat_ofNat']
  omega

theorem be8_cells (N : Int) : byteCells (be8 N) = [.int .u8 (N / 72057594037927936 % 256), .int .u8 (N / 281474976710656 % 256), .int .u8 (N / 1099511627776 % 256), .int .u8 (N / 4294967296 % 256),
    .int .u8 (N / 16777216 % 256), .int .u8 (N / 65536 % 256), .int .u8 (N / 256 % 256), .int .u8 (N % 256)] := by
  simp only [byteCells, be8, List.map_cons, List.map_nil, byte_toNat]

theorem Own.cast {B : Nat} {e : TypeId} {sz : Nat} {v : Value} {n n' : Nat} {xs xs' : List Value} {W0 w : World} (h : Own B e sz v n xs W0 w) (hn : n = n') (hx : xs = xs') : Own B e sz v n' xs' W0 w := by
  subst hn
  subst hx
  exact h

theorem box3 {W : World} {g : Nat} {x y z : Value} {t : TypeId} (h : W.heap[g]? = some (.cells #[x, y, z] t)) :
    (W.cell? ⟨g, 0, none⟩ = some x ∧ W.cell? ⟨g, 1, none⟩ = some y ∧ W.cell? ⟨g, 2, none⟩ = some z) ∧ (W.frozen? ⟨g, 0, none⟩ = false ∧ W.frozen? ⟨g, 1, none⟩ = false ∧ W.frozen? ⟨g, 2, none⟩ = false) := by
  refine ⟨⟨?_, ?_, ?_⟩, ?_, ?_, ?_⟩ <;> simp [World.cell?, World.frozen?, h]

theorem Own.box {B : Nat} {e : TypeId} {sz : Nat} {v : Value} {n : Nat} {xs : List Value} {W0 w : World} (h : Own B e sz v n xs W0 w) {g : Nat} {a b c : Value} {t : TypeId} (hg : w.heap[g]? = some (.cells #[a, b, c] t)) (hne : t ≠ e) (hB : B ≤ g) (x y z : Value) :
    Own B e sz v n xs W0 (((w.setCell ⟨g, 0, none⟩ x).setCell ⟨g, 1, none⟩ y).setCell ⟨g, 2, none⟩ z) ∧ (((w.setCell ⟨g, 0, none⟩ x).setCell ⟨g, 1, none⟩ y).setCell ⟨g, 2, none⟩ z).heap[g]? = some (.cells #[x, y, z] t) :=
  ⟨((h.set hg hne hB 0 x).set (block_set hg) hne hB 1 y).set (block_set (block_set hg)) hne hB 2 z, block_set (block_set (block_set hg))⟩

/-- The call has made a row of bytes. -/
def Made (L : List UInt8) (w : World) (e : Ending) (w' : World) : Prop := ∃ v, e = .returned v ∧ Own w.heap.size 5 1 v L.length (byteCells L) w w'

theorem Tryz.info5' : (Tryz.prog.info? 5).map (fun i => (i.zero, i.size, i.bytes)) = some (some (.int .u8 0), 1, 1) := by kernel_rfl

theorem key_zero {K : List UInt8} {x : Val} (h : x.k = 0) : byteCells K ++ [.int .u8 0] = byteCells (K ++ keyOf x) ∧ K.length + 1 = (K ++ keyOf x).length := by
  unfold keyOf
  rw [if_pos h]
  simp [byteCells]

theorem key_text {K : List UInt8} {x : Val} (h : x.k = 3) : ((byteCells K ++ [.int .u8 3]) ++ strCells x.s) ++ [.int .u8 0] = byteCells (K ++ keyOf x) ∧ K.length + 1 + x.s.size + 1 = (K ++ keyOf x).length := by
  have : x.s.data.toList.length = x.s.size := Array.length_toList
  unfold keyOf
  rw [if_neg (by omega), if_pos h]
  constructor
  · simp [byteCells, strCells]
  · simp only [List.length_append, List.length_cons, List.length_nil]
    omega

theorem key_num {K : List UInt8} {x : Val} (N : Int) (hN : N = x.n + 4611686018427387904) (hN0 : 0 ≤ N) (hN1 : N ≤ 9223372036854775807) (h0 : 0 ≤ x.k) (h4 : x.k ≤ 4) (h : x.k ≠ 0) (h3 : x.k ≠ 3) :
    ((((((((byteCells K ++ [.int .u8 x.k]) ++ [.int .u8 (N / 72057594037927936)]) ++ [.int .u8 (N / 281474976710656 % 256)]) ++ [.int .u8 (N / 1099511627776 % 256)]) ++ [.int .u8 (N / 4294967296 % 256)]) ++
      [.int .u8 (N / 16777216 % 256)]) ++ [.int .u8 (N / 65536 % 256)]) ++ [.int .u8 (N / 256 % 256)]) ++ [.int .u8 (N % 256)] = byteCells (K ++ keyOf x) ∧ K.length + 1 + 1 + 1 + 1 + 1 + 1 + 1 + 1 + 1 = (K ++ keyOf x).length := by
  unfold keyOf
  rw [if_neg h, if_neg h3, ← hN]
  constructor
  · have hb := be8_cells N
    have hk : ((UInt8.ofNat x.k.toNat).toNat : Int) = x.k := by rw [UInt8.toNat_ofNat']; omega
    have e : byteCells (K ++ UInt8.ofNat x.k.toNat :: be8 N) = byteCells K ++ (Value.int .u8 ((UInt8.ofNat x.k.toNat).toNat : Int) :: byteCells (be8 N)) := by simp [byteCells]
    rw [e, hb, hk, show N / 72057594037927936 % 256 = N / 72057594037927936 by omega]
    simp
  · simp [be8]

set_option maxRecDepth 20000 in
set_option maxHeartbeats 2000000 in
theorem Tryz.key (l : List Val) (ad : Option Addr) (ca : Nat) (w : World) (h : RowAt w w.heap.size ad l) (la : l.length ≤ 1000000000) : Calls Tryz.prog 21 #[.slice ad l.length ca] w (Made (keyL l) w) := by
  obtain ⟨i5, hi5, hz5, hs5, hb5⟩ := info_parts Tryz.info5'
  go_enter Tryz.func21, Tryz.ntmps21
  go_wp2_with fail
  go_loopw [3, 10] (fun o i wr => ∃ k : Nat, i = .int .i64 k ∧ k ≤ l.length ∧ Own w.heap.size 5 1 o (keyL (l.take k)).length (byteCells (keyL (l.take k))) w wr) (fun _ i _ => l.length - (intOf i).toNat)
  case atStart => exact ⟨0, rfl, Nat.zero_le _, Own.start w 5 1⟩
  case round =>
    obtain ⟨k, rfl, hkl, hO⟩ := hrel
    by_cases hlt : k < l.length
    · obtain ⟨p, o, rfl, hp, c0, c1, c2, sa⟩ := h.below hO.2.1 k hlt
      have hO1 := hO.alloc (.cells #[.int .i64 l[k].k, .int .i64 l[k].n, .string l[k].s] 23)
      have hbase := hO.2.2
      have hlen := keyL_length (l.take k)
      have hpb := plain_bounds l[k]
      have HK := Lib.hid (keyL_take hlt)
      rw [List.length_take, Nat.min_eq_left hkl] at hlen
      go_upto_region 6 with (go_at_call 32; refine (Tryz.plainV l[k].k l[k].n l[k].s sa _).mono ?_; rintro e w2 ⟨rfl, hb2⟩; obtain ⟨b1, hz, hb'⟩ := one_kept hb2; obtain ⟨⟨c0, c1, c2⟩, f0, f1, f2⟩ := box3 b1; simp only [Val.v, valV])
      obtain ⟨hO2, hbox⟩ := (hO1.call hb2).box b1 (by decide) hbase (.int .i64 l[k].plain.k) (.int .i64 l[k].plain.n) (.string l[k].plain.s)
      clear c0 c1 c2 f0 f1 f2 b1 hb' hb2 hz hO1
      generalize ((w2.setCell ⟨wr.heap.size, 0, none⟩ (.int .i64 l[k].plain.k)).setCell ⟨wr.heap.size, 1, none⟩ (.int .i64 l[k].plain.n)).setCell ⟨wr.heap.size, 2, none⟩ (.string l[k].plain.s) = W at hO2 hbox ⊢
      generalize l[k].plain = x at hpb HK hO2 hbox ⊢
      obtain ⟨⟨c0, c1, c2⟩, f0, f1, f2⟩ := box3 hbox
      obtain ⟨xk, xn, xs⟩ := x
      obtain ⟨⟨k1, k2⟩, ⟨n1, n2⟩, _, _, hsz⟩ := hpb
      simp only at k1 k2 n1 n2 hsz hO2 hbox c0 c1 c2
      rcases (show xk = 0 ∨ xk = 3 ∨ xk = 1 ∨ xk = 2 ∨ xk = 4 by omega) with rfl | rfl | rfl | rfl | rfl
      · go_wp2_with (at_builtin; refine append_byte rfl (.tmp 16) (.tmp 20) 39 rfl w.heap.size 5 23 (by decide) i5 Tryz.underlying39 hi5 hz5 hs5 hb5 _ _ _ rfl w _ _ hO2 rfl (by omega) ?_; intro v3 w3 hO3 hB3; have hbox3 := hB3.2 _ _ _ hbox; obtain ⟨⟨c0, c1, c2⟩, f0, f1, f2⟩ := box3 hbox3)
        go_roundw
        case rel => exact ⟨k + 1, by go_num, by omega, hO3.cast (by rw [HK.out]; exact (key_zero rfl).2) (by rw [HK.out]; exact (key_zero rfl).1)⟩
        case measure => simp [intOf]; omega
      · go_wp2_with (first
          | (at_builtin; refine append_byte rfl (.tmp 16) (.tmp 20) 39 rfl w.heap.size 5 23 (by decide) i5 Tryz.underlying39 hi5 hz5 hs5 hb5 _ _ _ rfl w _ _ hO2 rfl (by omega) ?_; intro v3 w3 hO3 hB3; have hbox3 := hB3.2 _ _ _ hbox; obtain ⟨⟨c0, c1, c2⟩, f0, f1, f2⟩ := box3 hbox3)
          | (at_builtin; refine append_text rfl (.tmp 44) (.tmp 46) 39 9 rfl w.heap.size 5 23 (by decide) i5 Tryz.underlying39 Tryz.underlying9 hi5 hz5 hs5 hb5 _ _ _ rfl w hO3 xs rfl (by omega) ?_; intro v4 w4 hO4 hB4; have hbox4 := hB4.2 _ _ _ hbox3; obtain ⟨⟨c0, c1, c2⟩, f0, f1, f2⟩ := box3 hbox4)
          | (at_builtin; refine append_byte rfl (.tmp 47) (.tmp 48) 39 rfl w.heap.size 5 23 (by decide) i5 Tryz.underlying39 hi5 hz5 hs5 hb5 _ _ _ rfl w _ _ hO4 rfl (by omega) ?_; intro v5 w5 hO5 hB5; have hbox5 := hB5.2 _ _ _ hbox4; obtain ⟨⟨c0, c1, c2⟩, f0, f1, f2⟩ := box3 hbox5))
        go_roundw
        case rel => exact ⟨k + 1, by go_num, by omega, hO5.cast (by rw [HK.out]; exact (key_text (x := ⟨3, xn, xs⟩) rfl).2) (by rw [HK.out]; exact (key_text (x := ⟨3, xn, xs⟩) rfl).1)⟩
        case measure => simp [intOf]; omega
      all_goals
        go_wp2_with (at_builtin; refine append_byte rfl (.tmp 16) (.tmp 20) 39 rfl w.heap.size 5 23 (by decide) i5 Tryz.underlying39 hi5 hz5 hs5 hb5 _ _ _ rfl w _ _ hO2 rfl (by omega) ?_; intro v3 w3 hO3 hB3; have hbox3 := hB3.2 _ _ _ hbox; obtain ⟨⟨c0, c1, c2⟩, f0, f1, f2⟩ := box3 hbox3)
        clear hB3 hbox3 c0 c1 c2 f0 f1 f2 hbox
        generalize hNN : IntKind.u64.wrap (IntKind.u64.wrap xn + 4611686018427387904) = N
        have hNv : N = xn + 4611686018427387904 := by rw [← hNN]; simp only [IntKind.wrap_u64]; omega
        have hN0 : 0 ≤ N := by omega
        have hN1 : N ≤ 9223372036854775807 := by omega
        have HN := Lib.hid hNv
        clear hNN hNv
        refine wp_loop_rounds 9 ?_
        rw [rounds_succ]; go_wp2_with (at_builtin; refine append_byte rfl (.tmp 32) (.tmp 38) 39 rfl w.heap.size 5 23 (by decide) i5 Tryz.underlying39 hi5 hz5 hs5 hb5 _ _ _ rfl w _ _ hO3 rfl (by omega) ?_; intro v4 w4 hO4 hB4)
        rw [rounds_succ]; go_wp2_with (at_builtin; refine append_byte rfl (.tmp 32) (.tmp 38) 39 rfl w.heap.size 5 23 (by decide) i5 Tryz.underlying39 hi5 hz5 hs5 hb5 _ _ _ rfl w _ _ hO4 rfl (by omega) ?_; intro v5 w5 hO5 hB5)
        rw [rounds_succ]; go_wp2_with (at_builtin; refine append_byte rfl (.tmp 32) (.tmp 38) 39 rfl w.heap.size 5 23 (by decide) i5 Tryz.underlying39 hi5 hz5 hs5 hb5 _ _ _ rfl w _ _ hO5 rfl (by omega) ?_; intro v6 w6 hO6 hB6)
        rw [rounds_succ]; go_wp2_with (at_builtin; refine append_byte rfl (.tmp 32) (.tmp 38) 39 rfl w.heap.size 5 23 (by decide) i5 Tryz.underlying39 hi5 hz5 hs5 hb5 _ _ _ rfl w _ _ hO6 rfl (by omega) ?_; intro v7 w7 hO7 hB7)
        rw [rounds_succ]; go_wp2_with (at_builtin; refine append_byte rfl (.tmp 32) (.tmp 38) 39 rfl w.heap.size 5 23 (by decide) i5 Tryz.underlying39 hi5 hz5 hs5 hb5 _ _ _ rfl w _ _ hO7 rfl (by omega) ?_; intro v8 w8 hO8 hB8)
        rw [rounds_succ]; go_wp2_with (at_builtin; refine append_byte rfl (.tmp 32) (.tmp 38) 39 rfl w.heap.size 5 23 (by decide) i5 Tryz.underlying39 hi5 hz5 hs5 hb5 _ _ _ rfl w _ _ hO8 rfl (by omega) ?_; intro v9 w9 hO9 hB9)
        rw [rounds_succ]; go_wp2_with (at_builtin; refine append_byte rfl (.tmp 32) (.tmp 38) 39 rfl w.heap.size 5 23 (by decide) i5 Tryz.underlying39 hi5 hz5 hs5 hb5 _ _ _ rfl w _ _ hO9 rfl (by omega) ?_; intro v10 w10 hO10 hB10)
        rw [rounds_succ]; go_wp2_with (at_builtin; refine append_byte rfl (.tmp 32) (.tmp 38) 39 rfl w.heap.size 5 23 (by decide) i5 Tryz.underlying39 hi5 hz5 hs5 hb5 _ _ _ rfl w _ _ hO10 rfl (by omega) ?_; intro v11 w11 hO11 hB11)
        rw [rounds_succ]; go_wp2_with fail
        go_roundw
        case rel => exact ⟨k + 1, by go_num, by omega, hO11.cast (by rw [HK.out]; exact (key_num (x := ⟨_, xn, xs⟩) N HN.out hN0 hN1 (by simp) (by simp) (by simp) (by simp)).2) (by rw [HK.out]; exact (key_num (x := ⟨_, xn, xs⟩) N HN.out hN0 hN1 (by simp) (by simp) (by simp) (by simp)).1)⟩
        case measure => simp [intOf]; omega
    · go_wp2_with fail
      go_ret
      have : l.take k = l := List.take_of_length_le (by omega)
      exact ⟨_, rfl, by rw [this] at hO; exact hO⟩
end Go.Proofs
