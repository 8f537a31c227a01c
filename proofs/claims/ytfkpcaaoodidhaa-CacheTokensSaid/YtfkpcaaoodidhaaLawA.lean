/- Of the law of tokens: a number appended to the row. No condition. -/
import Derived.Test.YtfkpcaaoodidhaaLive
namespace Go.Proofs
open Go.RowKit

theorem append_live {ops : Array Oper} {rest : List Oper} {o : Oper} {a : Act} {Q : Exit → Act → World → Prop} (hgd : o.guard = none) (s x : Operand)
    (ho : o.op = .call { callee := .builtin .append, args := #[s, x], argTypes := #[22, 22] })
    {w0 W : World} {ad : Option Addr} {n cap k : Nat} {v : Value} {l : List Int} (hL : Live w0 W ad n cap k v l)
    (y : Int) (hlen : l.length + 1 ≤ 1000000000) (hs : a.eval s = v) (hx : ∃ G, a.eval x = .slice (some ⟨G, 0, none⟩) 1 1 ∧ W.heap.size = G)
    (h : ∀ v' w', Live w0 w' ad n cap k v' (l ++ [y]) → wpList Try.prog ops Q rest (a.put o.dst v') w') : wpList Try.prog ops Q (o :: rest) a (W.alloc (.cells #[.int .i64 y] 3)) := by
  obtain ⟨i3, hi3, hz3, hs3, hb3⟩ := info_parts Try.info3'
  obtain ⟨G, hx, hG⟩ := hx
  have hL2 := hL.alloc (.cells #[.int .i64 y] 3)
  obtain ⟨⟨b, h1, h2, hS⟩, hO⟩ := hL2
  have hnew := heap_alloc_new W (.cells #[.int .i64 y] 3)
  refine wpList_plain hgd fun _ hK => ?_
  refine wp_append_own (W.alloc (.cells #[.int .i64 y] 3)) s x 22 ho w0.heap.size 3 i3 _ 1 8 Try.underlying22 hi3 hz3 hs3 hb3 rfl (by decide) v l.length (l.map (Value.int .i64)) hs hO.1 ⟨W.heap.size, 0, none⟩ 1 1 [.int .i64 y] (by rw [hx, hG]) rfl ?_ ?_ (by unfold maxLen; omega) (by omega) hO.2.2 ?_
  · exact cell_one_new _ _ _
  · intro u hu
    simp only [List.mem_cons, List.mem_nil_iff, or_false] at hu
    subst hu
    rfl
  · intro v' w' ho' hgr _
    refine hK _ _ (h v' w' ⟨⟨b, h1, h2, ?_⟩, ?_⟩)
    · exact ((Own.boxes hO hgr (t := 25) (by decide)).2 _ _ _ hS)
    · have := hO.grown ho' hgr
      unfold OwnI
      rw [List.length_append, List.map_append]
      exact this

theorem append_live2 {ops : Array Oper} {rest : List Oper} {o : Oper} {a : Act} {Q : Exit → Act → World → Prop} (hgd : o.guard = none) (s x : Operand)
    (ho : o.op = .call { callee := .builtin .append, args := #[s, x], argTypes := #[22, 22] })
    {w0 W : World} {ad : Option Addr} {n cap k : Nat} {v : Value} {l : List Int} (hL : Live w0 W ad n cap k v l)
    (y : Int) (hlen : l.length + 1 ≤ 1000000000) (hs : a.eval s = v) (hx : ∃ G, a.eval x = .slice (some ⟨G, 0, none⟩) 1 1 ∧ W.heap.size = G)
    (h : ∀ v' w', Live w0 w' ad n cap k v' (l ++ [y]) → Boxes 32 W w' → wpList Try.prog ops Q rest (a.put o.dst v') w') : wpList Try.prog ops Q (o :: rest) a (W.alloc (.cells #[.int .i64 y] 3)) := by
  obtain ⟨i3, hi3, hz3, hs3, hb3⟩ := info_parts Try.info3'
  obtain ⟨G, hx, hG⟩ := hx
  have hL2 := hL.alloc (.cells #[.int .i64 y] 3)
  obtain ⟨⟨b, h1, h2, hS⟩, hO⟩ := hL2
  refine wpList_plain hgd fun _ hK => ?_
  refine wp_append_own (W.alloc (.cells #[.int .i64 y] 3)) s x 22 ho w0.heap.size 3 i3 _ 1 8 Try.underlying22 hi3 hz3 hs3 hb3 rfl (by decide) v l.length (l.map (Value.int .i64)) hs hO.1 ⟨W.heap.size, 0, none⟩ 1 1 [.int .i64 y] (by rw [hx, hG]) rfl ?_ ?_ (by unfold maxLen; omega) (by omega) hO.2.2 ?_
  · exact cell_one_new _ _ _
  · intro u hu
    simp only [List.mem_cons, List.mem_nil_iff, or_false] at hu
    subst hu
    rfl
  · intro v' w' ho' hgr _
    have hbx := Own.boxes hO hgr (t := 32) (by decide)
    refine hK _ _ (h v' w' ⟨⟨b, h1, h2, ?_⟩, ?_⟩ ⟨?_, ?_⟩)
    · exact ((Own.boxes hO hgr (t := 25) (by decide)).2 _ _ _ hS)
    · have := hO.grown ho' hgr
      unfold OwnI
      rw [List.length_append, List.map_append]
      exact this
    · have := hbx.1
      rw [alloc_one] at this
      omega
    · intro g cs fr hg
      exact hbx.2 g cs fr ((heap_alloc_old W _ _ (Array.getElem?_eq_some_iff.1 hg).1).trans hg)

theorem Live.put {w W : World} {ad : Option Addr} {n cap k g : Nat} {v : Value} {l : List Int} {cs : Array Value} (h : Live w W ad n cap k v l) (hg : W.heap[g]? = some (.cells cs 32)) (hne : w.heap.size < g) (i : Nat) (x : Value) :
    Live w (W.setCell ⟨g, i, none⟩ x) ad n cap k v l ∧ (W.setCell ⟨g, i, none⟩ x).heap[g]? = some (.cells (cs.setIfInBounds i x) 32) := by
  obtain ⟨⟨a, h1, h2, h3⟩, h4⟩ := h
  exact ⟨⟨⟨a, h1, h2, (block_set_ne (by omega)).trans h3⟩, Own.set h4 hg (by decide) (by omega) i x⟩, block_set' hg⟩

theorem Live.emptied {w W : World} {ad : Option Addr} {n cap k : Nat} {v : Value} {l : List Int} (h : Live w W ad n cap k v l) : Live w W ad n cap k (.slice none 0 0) [] :=
  ⟨h.1, World.ownsRow_nil _ _ _ _, h.2.2.1, h.2.2.2⟩

theorem ints_at {w : World} {N : Nat} {ad : Option Addr} {x : Int} {l : List Int} (h : IntsAt w N ad (x :: l)) : ∃ p o, ad = some ⟨p, o, none⟩ ∧ ∀ j, j < (x :: l).length → w.cell? ⟨p, o + j, none⟩ = some (.int .i64 ((x :: l).getD j 0)) := by
  obtain ⟨p, o, rfl, _⟩ := h 0 (by simp)
  refine ⟨p, o, rfl, fun j hj => ?_⟩
  obtain ⟨p', o', h1, _, h3, _⟩ := h j hj
  simp only [Option.some.injEq, Addr.mk.injEq, and_true] at h1
  obtain ⟨rfl, rfl⟩ := h1
  rw [h3, List.getD_eq_getElem?_getD, List.getElem?_eq_getElem hj]
  rfl

/-- Two rows that hold the same numbers are equal. -/
theorem Try.equalSame (t : List Int) (a b : Option Addr) (c d : Nat) (w : World) (N M : Nat) (h1 : IntsAt w N a t) (h2 : IntsAt w M b t) (hl : t.length ≤ 9223372036854775807) :
    Calls Try.prog 9 #[.slice a t.length c, .slice b t.length d] w fun e w' => e = .returned (.bool true) ∧ ∃ q, w' = w.drewN q := by
  cases t with
  | nil =>
    refine (Try.slices_Equal_int_empty a b c 0 d w (by omega)).mono ?_
    rintro e w' ⟨rfl, rfl⟩
    exact ⟨rfl, 0, rfl⟩
  | cons x t =>
    obtain ⟨p, o, rfl, hc1⟩ := ints_at h1
    obtain ⟨p2, o2, rfl, hc2⟩ := ints_at h2
    refine (Try.slices_Equal_int p o _ c p2 o2 _ d (x :: t) (x :: t) w (Nat.le_refl _) (Nat.le_refl _) hl hl hc1 hc2).mono ?_
    rintro e w' ⟨rfl, hq⟩
    exact ⟨by simp, hq⟩
end Go.Proofs
