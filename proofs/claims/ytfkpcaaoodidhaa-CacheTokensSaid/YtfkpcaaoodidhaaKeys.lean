/- Of package value and of the document's package: the bytes of a list. The list has at most 1000000000 values. -/
import Derived.Test.YtfkpcaaoodidhaaOrd
import Derived.Lib.Hide
import Derived.Test.YtfkpcaaoodidhaaBuf
namespace Go.Proofs
open Go.RowKit
open Go.Lib (byteCells strCells)

def be8 (N : Int) : List UInt8 := [UInt8.ofNat (N / 72057594037927936 % 256).toNat, UInt8.ofNat (N / 281474976710656 % 256).toNat, UInt8.ofNat (N / 1099511627776 % 256).toNat, UInt8.ofNat (N / 4294967296 % 256).toNat,
  UInt8.ofNat (N / 16777216 % 256).toNat, UInt8.ofNat (N / 65536 % 256).toNat, UInt8.ofNat (N / 256 % 256).toNat, UInt8.ofNat (N % 256).toNat]

def keyOf (x : Val) : List UInt8 := if x.k = 0 then [0] else if x.k = 3 then 3 :: (x.s.data.toList ++ [0]) else UInt8.ofNat x.k.toNat :: be8 (x.n + 4611686018427387904)

def keyL (l : List Val) : List UInt8 := l.flatMap fun x => keyOf x.plain

theorem keyL_take {l : List Val} {k : Nat} (h : k < l.length) : keyL (l.take (k + 1)) = keyL (l.take k) ++ keyOf l[k].plain := by
  unfold keyL
  rw [List.take_succ_eq_append_getElem h, List.flatMap_append]
  simp

theorem keyOf_length (x : Val) : (keyOf x.plain).length ≤ 102 := by
  obtain ⟨_, _, _, _, h⟩ := plain_bounds x
  unfold keyOf
  split
  · simp
  · split
    · have : x.plain.s.data.toList.length = x.plain.s.size := Array.length_toList
      simp only [List.length_cons, List.length_append, List.length_nil]
      omega
    · simp [be8]

theorem keyL_length (l : List Val) : (keyL l).length ≤ 102 * l.length := by
  induction l with
  | nil => simp [keyL]
  | cons x l ih =>
    have h := keyOf_length x
    have e : keyL (x :: l) = keyOf x.plain ++ keyL l := rfl
    rw [e, List.length_append, List.length_cons]
    omega

theorem byte_toNat (m : Int) : (((UInt8.ofNat (m % 256).toNat).toNat : Nat) : Int) = m % 256 := by
  have h1 := Int.emod_nonneg m (show (256 : Int) ≠ 0 by omega)
  have h2 := Int.emod_lt_of_pos m (show (0 : Int) < 256 by omega)
  rw [UInt8.toNat_ofNat']
  omega

theorem be8_cells (N : Int) : byteCells (be8 N) = [.int .u8 (N / 72057594037927936 % 256), .int .u8 (N / 281474976710656 % 256), .int .u8 (N / 1099511627776 % 256), .int .u8 (N / 4294967296 % 256),
    .int .u8 (N / 16777216 % 256), .int .u8 (N / 65536 % 256), .int .u8 (N / 256 % 256), .int .u8 (N % 256)] := by
  simp only [byteCells, be8, List.map_cons, List.map_nil, byte_toNat]

theorem Own.cast {B : Nat} {e : TypeId} {sz : Nat} {v : Value} {n n' : Nat} {xs xs' : List Value} {W0 w : World} (h : Own B e sz v n xs W0 w) (hn : n = n') (hx : xs = xs') : Own B e sz v n' xs' W0 w := by
  subst hn
  subst hx
  exact h

theorem box3 {W : World} {g : Nat} {x y z : Value} {t : TypeId} (h : W.heap[g]? = some (.cells #[x, y, z] t)) :
    (W.cell? ⟨g, 0, none⟩ = some x ∧ W.cell? ⟨g, 1, none⟩ = some y ∧ W.cell? ⟨g, 2, none⟩ = some z) ∧ (W.frozen? ⟨g, 0, none⟩ = false ∧ W.frozen? ⟨g, 1, none⟩ = false ∧ W.frozen? ⟨g, 2, none⟩ = false) := by
  refine ⟨⟨?_, ?_, ?_⟩, ?_, ?_, ?_⟩ <;> simp [World.cell?, World.frozen?, h]

theorem Own.box {B : Nat} {e : TypeId} {sz : Nat} {v : Value} {n : Nat} {xs : List Value} {W0 w : World} (h : Own B e sz v n xs W0 w) {g : Nat} {a b c : Value} {t : TypeId} (hg : w.heap[g]? = some (.cells #[a, b, c] t)) (hne : t ≠ e) (hB : B ≤ g) (x y z : Value) :
    Own B e sz v n xs W0 (((w.setCell ⟨g, 0, none⟩ x).setCell ⟨g, 1, none⟩ y).setCell ⟨g, 2, none⟩ z) ∧ (((w.setCell ⟨g, 0, none⟩ x).setCell ⟨g, 1, none⟩ y).setCell ⟨g, 2, none⟩ z).heap[g]? = some (.cells #[x, y, z] t) :=
  ⟨((h.set hg hne hB 0 x).set (block_set hg) hne hB 1 y).set (block_set (block_set hg)) hne hB 2 z, block_set (block_set (block_set hg))⟩

/-- The call has made a row of bytes. -/
def Made (L : List UInt8) (w : World) (e : Ending) (w' : World) : Prop := ∃ v, e = .returned v ∧ Own w.heap.size 5 1 v L.length (byteCells L) w w'

theorem Try.info5' : (Try.prog.info? 5).map (fun i => (i.zero, i.size, i.bytes)) = some (some (.int .u8 0), 1, 1) := by kernel_rfl

theorem key_zero {K : List UInt8} {x : Val} (h : x.k = 0) : byteCells K ++ [.int .u8 0] = byteCells (K ++ keyOf x) ∧ K.length + 1 = (K ++ keyOf x).length := by
  unfold keyOf
  rw [if_pos h]
  simp [byteCells]

theorem key_text {K : List UInt8} {x : Val} (h : x.k = 3) : ((byteCells K ++ [.int .u8 3]) ++ strCells x.s) ++ [.int .u8 0] = byteCells (K ++ keyOf x) ∧ K.length + 1 + x.s.size + 1 = (K ++ keyOf x).length := by
  have : x.s.data.toList.length = x.s.size := Array.length_toList
  unfold keyOf
  rw [if_neg (by omega), if_pos h]
  constructor
  · simp [byteCells, strCells]
  · simp only [List.length_append, List.length_cons, List.length_nil]
    omega

theorem key_num {K : List UInt8} {x : Val} (N : Int) (hN : N = x.n + 4611686018427387904) (hN0 : 0 ≤ N) (hN1 : N ≤ 9223372036854775807) (h0 : 0 ≤ x.k) (h4 : x.k ≤ 4) (h : x.k ≠ 0) (h3 : x.k ≠ 3) :
    ((((((((byteCells K ++ [.int .u8 x.k]) ++ [.int .u8 (N / 72057594037927936)]) ++ [.int .u8 (N / 281474976710656 % 256)]) ++ [.int .u8 (N / 1099511627776 % 256)]) ++ [.int .u8 (N / 4294967296 % 256)]) ++
      [.int .u8 (N / 16777216 % 256)]) ++ [.int .u8 (N / 65536 % 256)]) ++ [.int .u8 (N / 256 % 256)]) ++ [.int .u8 (N % 256)] = byteCells (K ++ keyOf x) ∧ K.length + 1 + 1 + 1 + 1 + 1 + 1 + 1 + 1 + 1 = (K ++ keyOf x).length := by
  unfold keyOf
  rw [if_neg h, if_neg h3, ← hN]
  constructor
  · have hb := be8_cells N
    have hk : ((UInt8.ofNat x.k.toNat).toNat : Int) = x.k := by rw [UInt8.toNat_ofNat']; omega
    have e : byteCells (K ++ UInt8.ofNat x.k.toNat :: be8 N) = byteCells K ++ (Value.int .u8 ((UInt8.ofNat x.k.toNat).toNat : Int) :: byteCells (be8 N)) := by simp [byteCells]
    rw [e, hb, hk, show N / 72057594037927936 % 256 = N / 72057594037927936 by omega]
    simp
  · simp [be8]

set_option maxRecDepth 20000 in
set_option maxHeartbeats 2000000 in
theorem Try.key (l : List Val) (ad : Option Addr) (ca : Nat) (w : World) (h : RowAt w w.heap.size ad l) (la : l.length ≤ 1000000000) : Calls Try.prog 68 #[.slice ad l.length ca] w (Made (keyL l) w) := by
  obtain ⟨i5, hi5, hz5, hs5, hb5⟩ := info_parts Try.info5'
  go_enter Try.func68, Try.ntmps68
  go_wp2_with fail
  go_loopw [3, 10] (fun o i wr => ∃ k : Nat, i = .int .i64 k ∧ k ≤ l.length ∧ Own w.heap.size 5 1 o (keyL (l.take k)).length (byteCells (keyL (l.take k))) w wr) (fun _ i _ => l.length - (intOf i).toNat)
  case atStart => exact ⟨0, rfl, Nat.zero_le _, Own.start w 5 1⟩
  case round =>
    obtain ⟨k, rfl, hkl, hO⟩ := hrel
    by_cases hlt : k < l.length
    · obtain ⟨p, o, rfl, hp, c0, c1, c2, sa⟩ := h.below hO.2.1 k hlt
      have hO1 := hO.alloc (.cells #[.int .i64 l[k].k, .int .i64 l[k].n, .string l[k].s] 55)
      have hbase := hO.2.2
      have hlen := keyL_length (l.take k)
      have hpb := plain_bounds l[k]
      have HK := Lib.hid (keyL_take hlt)
      rw [List.length_take, Nat.min_eq_left hkl] at hlen
      go_upto_region 6 with (go_at_call 88; refine (Try.plainV l[k].k l[k].n l[k].s sa _).mono ?_; rintro e w2 ⟨rfl, hb2⟩; obtain ⟨b1, hz, hb'⟩ := one_kept hb2; obtain ⟨⟨c0, c1, c2⟩, f0, f1, f2⟩ := box3 b1; simp only [Val.v, valV])
      obtain ⟨hO2, hbox⟩ := (hO1.call hb2).box b1 (by decide) hbase (.int .i64 l[k].plain.k) (.int .i64 l[k].plain.n) (.string l[k].plain.s)
      clear c0 c1 c2 f0 f1 f2 b1 hb' hb2 hz hO1
      generalize ((w2.setCell ⟨wr.heap.size, 0, none⟩ (.int .i64 l[k].plain.k)).setCell ⟨wr.heap.size, 1, none⟩ (.int .i64 l[k].plain.n)).setCell ⟨wr.heap.size, 2, none⟩ (.string l[k].plain.s) = W at hO2 hbox ⊢
      generalize l[k].plain = x at hpb HK hO2 hbox ⊢
      obtain ⟨⟨c0, c1, c2⟩, f0, f1, f2⟩ := box3 hbox
      obtain ⟨xk, xn, xs⟩ := x
      obtain ⟨⟨k1, k2⟩, ⟨n1, n2⟩, _, _, hsz⟩ := hpb
      simp only at k1 k2 n1 n2 hsz hO2 hbox c0 c1 c2
      rcases (show xk = 0 ∨ xk = 3 ∨ xk = 1 ∨ xk = 2 ∨ xk = 4 by omega) with rfl | rfl | rfl | rfl | rfl
      · go_wp2_with (at_builtin; refine append_byte rfl (.tmp 16) (.tmp 20) 78 rfl w.heap.size 5 55 (by decide) i5 Try.underlying78 hi5 hz5 hs5 hb5 _ _ _ rfl w _ _ hO2 rfl (by omega) ?_; intro v3 w3 hO3 hB3; have hbox3 := hB3.2 _ _ _ hbox; obtain ⟨⟨c0, c1, c2⟩, f0, f1, f2⟩ := box3 hbox3)
        go_roundw
        case rel => exact ⟨k + 1, by go_num, by omega, hO3.cast (by rw [HK.out]; exact (key_zero rfl).2) (by rw [HK.out]; exact (key_zero rfl).1)⟩
        case measure => simp [intOf]; omega
      · go_wp2_with (first
          | (at_builtin; refine append_byte rfl (.tmp 16) (.tmp 20) 78 rfl w.heap.size 5 55 (by decide) i5 Try.underlying78 hi5 hz5 hs5 hb5 _ _ _ rfl w _ _ hO2 rfl (by omega) ?_; intro v3 w3 hO3 hB3; have hbox3 := hB3.2 _ _ _ hbox; obtain ⟨⟨c0, c1, c2⟩, f0, f1, f2⟩ := box3 hbox3)
          | (at_builtin; refine append_text rfl (.tmp 44) (.tmp 46) 78 9 rfl w.heap.size 5 55 (by decide) i5 Try.underlying78 Try.underlying9 hi5 hz5 hs5 hb5 _ _ _ rfl w hO3 xs rfl (by omega) ?_; intro v4 w4 hO4 hB4; have hbox4 := hB4.2 _ _ _ hbox3; obtain ⟨⟨c0, c1, c2⟩, f0, f1, f2⟩ := box3 hbox4)
          | (at_builtin; refine append_byte rfl (.tmp 47) (.tmp 48) 78 rfl w.heap.size 5 55 (by decide) i5 Try.underlying78 hi5 hz5 hs5 hb5 _ _ _ rfl w _ _ hO4 rfl (by omega) ?_; intro v5 w5 hO5 hB5; have hbox5 := hB5.2 _ _ _ hbox4; obtain ⟨⟨c0, c1, c2⟩, f0, f1, f2⟩ := box3 hbox5))
        go_roundw
        case rel => exact ⟨k + 1, by go_num, by omega, hO5.cast (by rw [HK.out]; exact (key_text (x := ⟨3, xn, xs⟩) rfl).2) (by rw [HK.out]; exact (key_text (x := ⟨3, xn, xs⟩) rfl).1)⟩
        case measure => simp [intOf]; omega
      all_goals
        go_wp2_with (at_builtin; refine append_byte rfl (.tmp 16) (.tmp 20) 78 rfl w.heap.size 5 55 (by decide) i5 Try.underlying78 hi5 hz5 hs5 hb5 _ _ _ rfl w _ _ hO2 rfl (by omega) ?_; intro v3 w3 hO3 hB3; have hbox3 := hB3.2 _ _ _ hbox; obtain ⟨⟨c0, c1, c2⟩, f0, f1, f2⟩ := box3 hbox3)
        clear hB3 hbox3 c0 c1 c2 f0 f1 f2 hbox
        generalize hNN : IntKind.u64.wrap (IntKind.u64.wrap xn + 4611686018427387904) = N
        have hNv : N = xn + 4611686018427387904 := by rw [← hNN]; simp only [IntKind.wrap_u64]; omega
        have hN0 : 0 ≤ N := by omega
        have hN1 : N ≤ 9223372036854775807 := by omega
        have HN := Lib.hid hNv
        clear hNN hNv
        refine wp_loop_rounds 9 ?_
        rw [rounds_succ]; go_wp2_with (at_builtin; refine append_byte rfl (.tmp 32) (.tmp 38) 78 rfl w.heap.size 5 55 (by decide) i5 Try.underlying78 hi5 hz5 hs5 hb5 _ _ _ rfl w _ _ hO3 rfl (by omega) ?_; intro v4 w4 hO4 hB4)
        rw [rounds_succ]; go_wp2_with (at_builtin; refine append_byte rfl (.tmp 32) (.tmp 38) 78 rfl w.heap.size 5 55 (by decide) i5 Try.underlying78 hi5 hz5 hs5 hb5 _ _ _ rfl w _ _ hO4 rfl (by omega) ?_; intro v5 w5 hO5 hB5)
        rw [rounds_succ]; go_wp2_with (at_builtin; refine append_byte rfl (.tmp 32) (.tmp 38) 78 rfl w.heap.size 5 55 (by decide) i5 Try.underlying78 hi5 hz5 hs5 hb5 _ _ _ rfl w _ _ hO5 rfl (by omega) ?_; intro v6 w6 hO6 hB6)
        rw [rounds_succ]; go_wp2_with (at_builtin; refine append_byte rfl (.tmp 32) (.tmp 38) 78 rfl w.heap.size 5 55 (by decide) i5 Try.underlying78 hi5 hz5 hs5 hb5 _ _ _ rfl w _ _ hO6 rfl (by omega) ?_; intro v7 w7 hO7 hB7)
        rw [rounds_succ]; go_wp2_with (at_builtin; refine append_byte rfl (.tmp 32) (.tmp 38) 78 rfl w.heap.size 5 55 (by decide) i5 Try.underlying78 hi5 hz5 hs5 hb5 _ _ _ rfl w _ _ hO7 rfl (by omega) ?_; intro v8 w8 hO8 hB8)
        rw [rounds_succ]; go_wp2_with (at_builtin; refine append_byte rfl (.tmp 32) (.tmp 38) 78 rfl w.heap.size 5 55 (by decide) i5 Try.underlying78 hi5 hz5 hs5 hb5 _ _ _ rfl w _ _ hO8 rfl (by omega) ?_; intro v9 w9 hO9 hB9)
        rw [rounds_succ]; go_wp2_with (at_builtin; refine append_byte rfl (.tmp 32) (.tmp 38) 78 rfl w.heap.size 5 55 (by decide) i5 Try.underlying78 hi5 hz5 hs5 hb5 _ _ _ rfl w _ _ hO9 rfl (by omega) ?_; intro v10 w10 hO10 hB10)
        rw [rounds_succ]; go_wp2_with (at_builtin; refine append_byte rfl (.tmp 32) (.tmp 38) 78 rfl w.heap.size 5 55 (by decide) i5 Try.underlying78 hi5 hz5 hs5 hb5 _ _ _ rfl w _ _ hO10 rfl (by omega) ?_; intro v11 w11 hO11 hB11)
        rw [rounds_succ]; go_wp2_with fail
        go_roundw
        case rel => exact ⟨k + 1, by go_num, by omega, hO11.cast (by rw [HK.out]; exact (key_num (x := ⟨_, xn, xs⟩) N HN.out hN0 hN1 (by simp) (by simp) (by simp) (by simp)).2) (by rw [HK.out]; exact (key_num (x := ⟨_, xn, xs⟩) N HN.out hN0 hN1 (by simp) (by simp) (by simp) (by simp)).1)⟩
        case measure => simp [intOf]; omega
    · go_wp2_with fail
      go_ret
      have : l.take k = l := List.take_of_length_le (by omega)
      exact ⟨_, rfl, by rw [this] at hO; exact hO⟩
set_option maxRecDepth 20000 in
set_option maxHeartbeats 2000000 in
theorem Try.keyed (l : List Val) (ad : Option Addr) (ca : Nat) (w : World) (h : RowAt w w.heap.size ad l) (la : l.length ≤ 1000000000) : Calls Try.prog 43 #[.slice ad l.length ca] w (Made (keyL l) w) := by
  obtain ⟨i5, hi5, hz5, hs5, hb5⟩ := info_parts Try.info5'
  go_enter Try.func43, Try.ntmps43
  go_wp2_with fail
  go_loopw [3, 9] (fun o i wr => ∃ k : Nat, i = .int .i64 k ∧ k ≤ l.length ∧ Own w.heap.size 5 1 o (keyL (l.take k)).length (byteCells (keyL (l.take k))) w wr) (fun _ i _ => l.length - (intOf i).toNat)
  case atStart => exact ⟨0, rfl, Nat.zero_le _, Own.start w 5 1⟩
  case round =>
    obtain ⟨k, rfl, hkl, hO⟩ := hrel
    by_cases hlt : k < l.length
    · obtain ⟨p, o, rfl, hp, c0, c1, c2, sa⟩ := h.below hO.2.1 k hlt
      have hO1 := hO.alloc (.cells #[.int .i64 l[k].k, .int .i64 l[k].n, .string l[k].s] 55)
      have hbase := hO.2.2
      have hlen := keyL_length (l.take k)
      have hpb := plain_bounds l[k]
      have HK := Lib.hid (keyL_take hlt)
      rw [List.length_take, Nat.min_eq_left hkl] at hlen
      go_upto_region 6 with (go_at_call 72; refine (Try.plainR l[k].k l[k].n l[k].s sa _).mono ?_; rintro e w2 ⟨rfl, hb2⟩; obtain ⟨b1, hz, hb'⟩ := one_kept hb2; obtain ⟨⟨c0, c1, c2⟩, f0, f1, f2⟩ := box3 b1; simp only [Val.v, valV])
      obtain ⟨hO2, hbox⟩ := (hO1.call hb2).box b1 (by decide) hbase (.int .i64 l[k].plain.k) (.int .i64 l[k].plain.n) (.string l[k].plain.s)
      clear c0 c1 c2 f0 f1 f2 b1 hb' hb2 hz hO1
      generalize ((w2.setCell ⟨wr.heap.size, 0, none⟩ (.int .i64 l[k].plain.k)).setCell ⟨wr.heap.size, 1, none⟩ (.int .i64 l[k].plain.n)).setCell ⟨wr.heap.size, 2, none⟩ (.string l[k].plain.s) = W at hO2 hbox ⊢
      generalize l[k].plain = x at hpb HK hO2 hbox ⊢
      obtain ⟨⟨c0, c1, c2⟩, f0, f1, f2⟩ := box3 hbox
      obtain ⟨xk, xn, xs⟩ := x
      obtain ⟨⟨k1, k2⟩, ⟨n1, n2⟩, _, _, hsz⟩ := hpb
      simp only at k1 k2 n1 n2 hsz hO2 hbox c0 c1 c2
      rcases (show xk = 0 ∨ xk = 3 ∨ xk = 1 ∨ xk = 2 ∨ xk = 4 by omega) with rfl | rfl | rfl | rfl | rfl
      · go_wp2_with (at_builtin; refine append_byte rfl (.tmp 15) (.tmp 19) 78 rfl w.heap.size 5 55 (by decide) i5 Try.underlying78 hi5 hz5 hs5 hb5 _ _ _ rfl w _ _ hO2 rfl (by omega) ?_; intro v3 w3 hO3 hB3; have hbox3 := hB3.2 _ _ _ hbox; obtain ⟨⟨c0, c1, c2⟩, f0, f1, f2⟩ := box3 hbox3)
        go_roundw
        case rel => exact ⟨k + 1, by go_num, by omega, hO3.cast (by rw [HK.out]; exact (key_zero rfl).2) (by rw [HK.out]; exact (key_zero rfl).1)⟩
        case measure => simp [intOf]; omega
      · go_wp2_with (first
          | (at_builtin; refine append_byte rfl (.tmp 15) (.tmp 19) 78 rfl w.heap.size 5 55 (by decide) i5 Try.underlying78 hi5 hz5 hs5 hb5 _ _ _ rfl w _ _ hO2 rfl (by omega) ?_; intro v3 w3 hO3 hB3; have hbox3 := hB3.2 _ _ _ hbox; obtain ⟨⟨c0, c1, c2⟩, f0, f1, f2⟩ := box3 hbox3)
          | (at_builtin; refine append_text rfl (.tmp 40) (.tmp 42) 78 9 rfl w.heap.size 5 55 (by decide) i5 Try.underlying78 Try.underlying9 hi5 hz5 hs5 hb5 _ _ _ rfl w hO3 xs rfl (by omega) ?_; intro v4 w4 hO4 hB4; have hbox4 := hB4.2 _ _ _ hbox3; obtain ⟨⟨c0, c1, c2⟩, f0, f1, f2⟩ := box3 hbox4)
          | (at_builtin; refine append_byte rfl (.tmp 43) (.tmp 44) 78 rfl w.heap.size 5 55 (by decide) i5 Try.underlying78 hi5 hz5 hs5 hb5 _ _ _ rfl w _ _ hO4 rfl (by omega) ?_; intro v5 w5 hO5 hB5; have hbox5 := hB5.2 _ _ _ hbox4; obtain ⟨⟨c0, c1, c2⟩, f0, f1, f2⟩ := box3 hbox5))
        go_roundw
        case rel => exact ⟨k + 1, by go_num, by omega, hO5.cast (by rw [HK.out]; exact (key_text (x := ⟨3, xn, xs⟩) rfl).2) (by rw [HK.out]; exact (key_text (x := ⟨3, xn, xs⟩) rfl).1)⟩
        case measure => simp [intOf]; omega
      all_goals
        go_wp2_with (at_builtin; refine append_byte rfl (.tmp 15) (.tmp 19) 78 rfl w.heap.size 5 55 (by decide) i5 Try.underlying78 hi5 hz5 hs5 hb5 _ _ _ rfl w _ _ hO2 rfl (by omega) ?_; intro v3 w3 hO3 hB3; have hbox3 := hB3.2 _ _ _ hbox; obtain ⟨⟨c0, c1, c2⟩, f0, f1, f2⟩ := box3 hbox3)
        have hN0 : 0 ≤ xn + 4611686018427387904 := by omega
        have hN1 : xn + 4611686018427387904 ≤ 9223372036854775807 := by omega
        refine wp_loop_rounds 9 ?_
        rw [rounds_succ]; go_wp2_with (at_builtin; refine append_byte rfl (.tmp 27) (.tmp 34) 78 rfl w.heap.size 5 55 (by decide) i5 Try.underlying78 hi5 hz5 hs5 hb5 _ _ _ rfl w _ _ hO3 rfl (by omega) ?_; intro v4 w4 hO4 hB4; have hbox4 := hB4.2 _ _ _ hbox3; obtain ⟨⟨c0, c1, c2⟩, f0, f1, f2⟩ := box3 hbox4)
        rw [rounds_succ]; go_wp2_with (at_builtin; refine append_byte rfl (.tmp 27) (.tmp 34) 78 rfl w.heap.size 5 55 (by decide) i5 Try.underlying78 hi5 hz5 hs5 hb5 _ _ _ rfl w _ _ hO4 rfl (by omega) ?_; intro v5 w5 hO5 hB5; have hbox5 := hB5.2 _ _ _ hbox4; obtain ⟨⟨c0, c1, c2⟩, f0, f1, f2⟩ := box3 hbox5)
        rw [rounds_succ]; go_wp2_with (at_builtin; refine append_byte rfl (.tmp 27) (.tmp 34) 78 rfl w.heap.size 5 55 (by decide) i5 Try.underlying78 hi5 hz5 hs5 hb5 _ _ _ rfl w _ _ hO5 rfl (by omega) ?_; intro v6 w6 hO6 hB6; have hbox6 := hB6.2 _ _ _ hbox5; obtain ⟨⟨c0, c1, c2⟩, f0, f1, f2⟩ := box3 hbox6)
        rw [rounds_succ]; go_wp2_with (at_builtin; refine append_byte rfl (.tmp 27) (.tmp 34) 78 rfl w.heap.size 5 55 (by decide) i5 Try.underlying78 hi5 hz5 hs5 hb5 _ _ _ rfl w _ _ hO6 rfl (by omega) ?_; intro v7 w7 hO7 hB7; have hbox7 := hB7.2 _ _ _ hbox6; obtain ⟨⟨c0, c1, c2⟩, f0, f1, f2⟩ := box3 hbox7)
        rw [rounds_succ]; go_wp2_with (at_builtin; refine append_byte rfl (.tmp 27) (.tmp 34) 78 rfl w.heap.size 5 55 (by decide) i5 Try.underlying78 hi5 hz5 hs5 hb5 _ _ _ rfl w _ _ hO7 rfl (by omega) ?_; intro v8 w8 hO8 hB8; have hbox8 := hB8.2 _ _ _ hbox7; obtain ⟨⟨c0, c1, c2⟩, f0, f1, f2⟩ := box3 hbox8)
        rw [rounds_succ]; go_wp2_with (at_builtin; refine append_byte rfl (.tmp 27) (.tmp 34) 78 rfl w.heap.size 5 55 (by decide) i5 Try.underlying78 hi5 hz5 hs5 hb5 _ _ _ rfl w _ _ hO8 rfl (by omega) ?_; intro v9 w9 hO9 hB9; have hbox9 := hB9.2 _ _ _ hbox8; obtain ⟨⟨c0, c1, c2⟩, f0, f1, f2⟩ := box3 hbox9)
        rw [rounds_succ]; go_wp2_with (at_builtin; refine append_byte rfl (.tmp 27) (.tmp 34) 78 rfl w.heap.size 5 55 (by decide) i5 Try.underlying78 hi5 hz5 hs5 hb5 _ _ _ rfl w _ _ hO9 rfl (by omega) ?_; intro v10 w10 hO10 hB10; have hbox10 := hB10.2 _ _ _ hbox9; obtain ⟨⟨c0, c1, c2⟩, f0, f1, f2⟩ := box3 hbox10)
        rw [rounds_succ]; go_wp2_with (at_builtin; refine append_byte rfl (.tmp 27) (.tmp 34) 78 rfl w.heap.size 5 55 (by decide) i5 Try.underlying78 hi5 hz5 hs5 hb5 _ _ _ rfl w _ _ hO10 rfl (by omega) ?_; intro v11 w11 hO11 hB11; have hbox11 := hB11.2 _ _ _ hbox10; obtain ⟨⟨c0, c1, c2⟩, f0, f1, f2⟩ := box3 hbox11)
        rw [rounds_succ]; go_wp2_with fail
        go_roundw
        case rel => exact ⟨k + 1, by go_num, by omega, hO11.cast (by rw [HK.out]; exact (key_num (x := ⟨_, xn, xs⟩) _ rfl hN0 hN1 (by simp) (by simp) (by simp) (by simp)).2) (by rw [HK.out]; exact (key_num (x := ⟨_, xn, xs⟩) _ rfl hN0 hN1 (by simp) (by simp) (by simp) (by simp)).1)⟩
        case measure => simp [intOf]; omega
    · go_wp2_with fail
      go_ret
      have : l.take k = l := List.take_of_length_le (by omega)
      exact ⟨_, rfl, by rw [this] at hO; exact hO⟩
end Go.Proofs
