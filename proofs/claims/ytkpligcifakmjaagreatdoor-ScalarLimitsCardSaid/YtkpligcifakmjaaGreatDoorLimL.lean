/- ScalarLimits: the law's function is walked. The condition: the library's table of white space. -/
import Derived.Test.YtkpligcifakmjaaGreatDoorLimS
import Derived.Test.YtkpligcifakmjaaGreatDoorSlDeep
import Derived.Test.YtkpligcifakmjaaGreatDoorRep
import Derived.Test.YtkpligcifakmjaaGreatDoorKoM
namespace Go.Proofs
open Go.RowKit Go.Ke

def negN : Nat → Ex
  | 0 => .mk oneX []
  | k + 1 => .mk (opX 17) [negN k]

def inN (n : Nat) : Ex := .mk inX (List.replicate n (.mk nulX []))

/-- What is asked of a tree of the law. -/
structure Fine (t : Ex) : Prop where
  lim : Lim t
  count : countT t ≤ 1000
  text : (textT t).length ≤ 65536

theorem negN_len : ∀ k, (textT (negN k)).length = 5 * k + 1 ∧ countT (negN k) = k + 1 ∧ Lim (negN k)
  | 0 => ⟨rfl, rfl, Lim.one⟩
  | k + 1 => by
    obtain ⟨h1, h2, h3⟩ := negN_len k
    refine ⟨?_, ?_, Lim.neg h3⟩
    · rw [negN, textT_node (.mk (opX 17) [negN k]) (show (4 : Int) ≠ 1 by decide)]
      show (headT (opX 17) ++ 40 :: (joinT [negN k] ++ [41])).length = _
      simp only [joinT, restT, List.length_append, List.length_cons, List.length_nil, h1]
      show 3 + _ = _
      omega
    · simp only [negN, countT, countL, h2]

theorem negN_fine {k : Nat} (h : k ≤ 25) : Fine (negN k) := by
  obtain ⟨h1, h2, h3⟩ := negN_len k
  exact ⟨h3, by omega, by omega⟩

theorem restN : ∀ n, (restT (List.replicate n (.mk nulX []))).length = 5 * n ∧ countL (List.replicate n (.mk nulX [])) = n
  | 0 => ⟨rfl, rfl⟩
  | n + 1 => by
    obtain ⟨h1, h2⟩ := restN n
    simp only [List.replicate_succ, restT, countL, List.length_cons, List.length_append, h1, h2]
    refine ⟨?_, ?_⟩
    · show 4 + _ + 1 = _
      omega
    · show 1 + n = n + 1
      omega

theorem inN_fine {n : Nat} (h1 : 2 ≤ n) (h2 : n ≤ 900) : Fine (inN n) := by
  have hr := restN n
  refine ⟨Lim.inn n h1, ?_, ?_⟩
  · simp only [inN, countT, hr.2]; omega
  · rw [inN, textT_node (.mk inX (List.replicate n (.mk nulX []))) (show (6 : Int) ≠ 1 by decide)]
    show (headT inX ++ 40 :: (joinT (List.replicate n (.mk nulX [])) ++ [41])).length ≤ _
    have hj : (joinT (List.replicate n (.mk nulX []))).length ≤ (restT (List.replicate n (.mk nulX []))).length := by
      cases n with
      | zero => simp [joinT, restT]
      | succ n => simp only [List.replicate_succ, joinT, restT, List.length_cons]; omega
    simp only [List.length_append, List.length_cons, List.length_nil]
    have : (headT inX).length = 2 := rfl
    omega

theorem rowC_rep (t : Ex × Option Addr × Nat) : ∀ n, rowC (List.replicate n t) = rep (t.1.node.cells (.slice t.2.1 t.1.args.length t.2.2)).toList n
  | 0 => rfl
  | n + 1 => by simp only [List.replicate_succ, rowC, rep, rowC_rep t n]

/-- Behind the law's first lines: the stream in block g, the expression in block y. -/
structure At8 (g y : Nat) (zad : Option Addr) (zs : List Int) (zcap : Nat) (w W : World) (a : Int) (t : Ex) (ad : Option Addr) (cap : Nat) : Prop where
  live : Live W g g zad zs zcap a
  lt : g < y
  box : Box W y t.node (.slice ad t.args.length cap)
  tree : TreeAt 1000 (y + 1) W t ad cap
  below : Below g w W

theorem At8.ylt {g y : Nat} {zad : Option Addr} {zs : List Int} {zcap : Nat} {w W : World} {a : Int} {t : Ex} {ad : Option Addr} {cap : Nat} (h : At8 g y zad zs zcap w W a t ad cap) : y < W.heap.size := blk_lt h.box

theorem At8.turn {g y : Nat} {zad : Option Addr} {zs : List Int} {zcap : Nat} {w W W' : World} {a b : Int} {t : Ex} {ad : Option Addr} {cap : Nat} (h : At8 g y zad zs zcap w W a t ad cap) (ht : Turns g W W') (hl : Live W' g g zad zs zcap b) : At8 g y zad zs zcap w W' b t ad cap :=
  ⟨hl, h.lt, ht.block h.box (by have := h.lt; omega), h.tree.turn ht (by have := h.lt; omega), h.below.trans ht.below⟩

theorem At8.call {g y : Nat} {zad : Option Addr} {zs : List Int} {zcap : Nat} {w W W' : World} {a : Int} {t : Ex} {ad : Option Addr} {cap : Nat} (h : At8 g y zad zs zcap w W a t ad cap) (hb : Below W.heap.size W W') : At8 g y zad zs zcap w W' a t ad cap :=
  h.turn (Turns.of hb (by have := h.live.lt; omega)) (h.live.call hb)

theorem At8.set {g y : Nat} {zad : Option Addr} {zs : List Int} {zcap : Nat} {w W : World} {a : Int} {t t' : Ex} {ad ad' : Option Addr} {cap cap' : Nat} (h : At8 g y zad zs zcap w W a t ad cap) (ht : TreeAt 1000 (y + 1) W t' ad' cap') : At8 g y zad zs zcap w (set13 W y t'.node (.slice ad' t'.args.length cap')) a t' ad' cap' := by
  have := h.lt
  exact ⟨h.live.set13 _ _ (by omega), h.lt, set13_box _ _ h.box, ht.set13 _ _ (by omega), set13_below _ _ h.below (by omega)⟩

theorem At8.all {g y : Nat} {zad : Option Addr} {zs : List Int} {zcap : Nat} {w W : World} {a : Int} {t : Ex} {ad : Option Addr} {cap : Nat} (h : At8 g y zad zs zcap w W a t ad cap) : TreeAt (countT t) (y + 1) W t ad cap := ⟨h.tree.1, Nat.le_refl _⟩

def deep1 : ByteArray := ⟨(Lib.repeatL [110, 101, 103, 40] 30).toArray⟩
def deep2 : ByteArray := ⟨(Lib.repeatL [41] 30).toArray⟩

theorem deep_is : deep1 ++ ⟨#[49]⟩ ++ deep2 = deepText := by
  unfold deep1 deep2
  rw [show (⟨#[49]⟩ : ByteArray) = ⟨[49].toArray⟩ from rfl, ba_append, ba_append]
  kernel_rfl

theorem Tryz.rep1 (w : World) : Calls Tryz.prog 44 #[.string ⟨#[110, 101, 103, 40]⟩, .int .i64 30] w fun e w' => e = .returned (.string deep1) ∧ Below w.heap.size w w' := Tryz.strings_Repeat ⟨#[110, 101, 103, 40]⟩ 30 w (by decide) (by decide)
theorem Tryz.rep2 (w : World) : Calls Tryz.prog 44 #[.string ⟨#[41]⟩, .int .i64 30] w fun e w' => e = .returned (.string deep2) ∧ Below w.heap.size w w' := Tryz.strings_Repeat ⟨#[41]⟩ 30 w (by decide) (by decide)

set_option maxRecDepth 20000 in
set_option maxHeartbeats 1000000 in
theorem Tryz.limitsLaw (zs : List Int) (zad : Option Addr) (zcap : Nat) (w : World) (hz : IntsAt w w.heap.size zad zs) (hl : zs.length ≤ 9223372036854775807) (htab : Lib.TabIs Tryz.prog w "strings.asciiSpace" .u8 Lib.asciiSpaceTab) :
    Calls Tryz.prog 8 #[.slice zad zs.length zcap] w fun e w' => e = .returned (.bool true) ∧ Below w.heap.size w w' := by
  have hA := (Below.refl w.heap.size w).alloc (Nat.le_refl _) (.cells #[.slice zad zs.length zcap, .int .i64 0] 31)
  have hst := heap_alloc_new w (.cells #[.slice zad zs.length zcap, .int .i64 0] 31)
  have hL : Live (w.alloc (.cells #[.slice zad zs.length zcap, .int .i64 0] 31)) w.heap.size w.heap.size zad zs zcap 0 := ⟨hst, hz.below hA, Nat.le_refl _, hl, Int.le_refl _⟩
  have hs0 := ex_alloc_size w (.cells #[.slice zad zs.length zcap, .int .i64 0] 31)
  replace hs0 : w.heap.size < (w.alloc (.cells #[.slice zad zs.length zcap, .int .i64 0] 31)).heap.size := by omega
  have hcon := Tryz.constant 2 1 ⟨#[]⟩ (w.alloc (.cells #[.slice zad zs.length zcap, .int .i64 0] 31))
  unfold valV at hcon
  go_enter Tryz.func8, Tryz.ntmps8
  go_wp2_with fail
  refine Calls.mono hcon ?_
  rintro e W1 ⟨rfl, hb1⟩
  have hL1 := hL.call hb1
  have hB1 := hA.trans (hb1.mono (by omega))
  simp only [Node.v, Node.cells, leafX]
  go_upto_region 3 with fail
  have h8 : At8 w.heap.size W1.heap.size zad zs zcap w (W1.alloc (.cells (oneX.cells (.slice none 0 0)) 57)) 0 (negN 0) none 0 :=
    ⟨hL1.alloc _, hL1.lt, Box.new _ _ _, TreeAt.leaf _ _ _ ⟨Nat.zero_le _, Nat.zero_le _, Nat.zero_le _⟩ _ (by decide), hB1.alloc (Nat.le_of_lt hL1.lt) _⟩
  obtain ⟨W2, hW2⟩ : ∃ W2, W2 = W1.alloc (.cells (oneX.cells (.slice none 0 0)) 57) := ⟨_, rfl⟩
  rw [← hW2] at h8
  simp only [oneX, leafX, Node.cells] at hW2
  rw [← hW2]
  clear hW2 hcon hA hst hL hs0 hb1 hL1 hB1
  obtain ⟨g, hg⟩ : ∃ g, w.heap.size = g := ⟨_, rfl⟩
  rw [hg] at h8 ⊢
  replace hg := Lib.hid hg
  generalize W1.heap.size = y at h8 ⊢
  have h9 := h8.call ((Below.refl _ _).alloc (Nat.le_refl _) (.cells #[.int .i64 22, .int .i64 23, .int .i64 24, .int .i64 25] 3))
  have hrow := heap_alloc_new W2 (.cells #[.int .i64 22, .int .i64 23, .int .i64 24, .int .i64 25] 3)
  have hne : W2.heap.size ≠ g := by have := h8.live.lt; omega
  go_wp2_with fail
  refine Calls.mono (Tryz.pickL h9.live (by omega) W2.heap.size 4 [22, 23, 24, 25] rfl hne hrow (by decide) (by decide)) ?_
  rintro e W3 ⟨r, hr, rfl, hL3, hT3⟩
  have h10 := h9.turn hT3 hL3
  clear h8 h9 hrow hne hL3 hT3
  obtain ⟨n, rfl, hn⟩ : ∃ n : Nat, r = n ∧ n ≤ 25 := by
    simp only [List.mem_cons, List.mem_nil_iff, or_false] at hr
    exact ⟨r.toNat, by omega, by omega⟩
  clear hr
  go_wp2_with fail
  go_loopw [24] (fun i wr => ∃ (k : Nat) (ad : Option Addr) (cap : Nat), i = .int .i64 k ∧ k ≤ n ∧ At8 g y zad zs zcap w wr 1 (negN k) ad cap) (fun i _ => n - (intOf i).toNat)
  case atStart => exact ⟨0, none, 0, rfl, Nat.zero_le _, h10⟩
  case round =>
    obtain ⟨k, ad, cap, rfl, hk, h8⟩ := hrel
    clear h10
    by_cases hlt : k < n
    · have hcn : countT (negN k) = k + 1 := (negN_len k).2.1
      have ht := TreeAt.row1 (C := 1000) (opX 17) (opX_ok 17) h8.all (by omega) h8.ylt
      have hop := Tryz.oper 17 (some ⟨wr.heap.size, 0, none⟩) 1 1 (wr.alloc (.cells (rowC [(negN k, ad, cap)]).toArray 57))
      have h11 := h8.call ((Below.refl _ _).alloc (Nat.le_refl _) (.cells (rowC [(negN k, ad, cap)]).toArray 57))
      have hre : (rowC [(negN k, ad, cap)]).toArray = (negN k).node.cells (.slice ad (negN k).args.length cap) := by simp [rowC]
      obtain ⟨c0, c1, c2, c3, c4, c5, c6, c7, c8, c9, c10, c11, c12⟩ := h8.box.is
      rw [hre] at ht hop h11
      have hst : Hid (negN (k + 1) = .mk (opX 17) [negN k]) := Lib.hid rfl
      generalize (negN k).args.length = m at *
      generalize (negN k).node = x at *
      unfold Node.cells at ht hop h11
      clear hre h8
      go_wp2_with fail
      refine Calls.mono hop ?_
      rintro e W5 ⟨rfl, hb5⟩
      replace h11 := h11.call hb5
      replace ht := ht.call hb5
      have hfz : ∀ o, W5.frozen? ⟨y, o, none⟩ = false := fun o => h11.box.froz o
      clear c0 c1 c2 c3 c4 c5 c6 c7 c8 c9 c10 c11 c12 hop hb5
      obtain ⟨c0, c1, c2, c3, c4, c5, c6, c7, c8, c9, c10, c11, c12⟩ := h11.box.is
      have h12 := At8.set (t' := .mk (opX 17) [negN k]) h11 ht
      dsimp only [Ex.node, Ex.args, List.length_cons, List.length_nil] at h12
      rw [← hst.out] at h12
      unfold set13 opX at h12
      clear hst ht h11
      simp only [Node.v, Node.cells]
      go_wp2_with fail
      go_roundw
      case rel => exact ⟨k + 1, _, _, by go_num, hlt, h12⟩
      case measure => simp [intOf]; omega
    · have hke : k = n := by omega
      subst hke
      have hF := negN_fine hn
      generalize negN k = t at h8 hF
      go_wp2_with fail
      refine Calls.mono (Tryz.flipL h8.live (by omega) 2 (by omega) (by omega)) ?_
      rintro e W4 ⟨b, rfl, hL4, hT4⟩
      replace h8 := h8.turn hT4 hL4
      clear hL4 hT4 hlt
      cases b with
      | false =>
        go_upto_region 9 with fail
        obtain ⟨d, hd0⟩ := h8.tree.1
        have hd := hd0.is (N := W4.heap.size) (fun p hp => hp.2)
        have hB : Below w.heap.size w W4 := by rw [hg.out]; exact h8.below
        have hbx := h8.box
        clear hd0 h8 
        have hko := ko_law [] [] t (fun _ q hq => by simp at hq) (fun q hq => by simp at hq) (by have := hF.count; omega)
        have k36 := Tryz.kindOf d t _ _ W4.heap.size [] [] none none 0 0 W4 hd (fun i hi => by simp at hi) (fun i hi => by simp at hi) (Nat.le_refl _) (Nat.zero_le _) (Nat.zero_le _) (fun _ q hq => by simp at hq) (fun q hq => by simp at hq) (Lib.tabBelow_of_tabIs (Lib.tabBelow_of_tabIs htab _ hB))
        rw [hko] at k36
        clear hko
        unfold Ex.v Node.v at k36
        obtain ⟨c0, c1, c2, c3, c4, c5, c6, c7, c8, c9, c10, c11, c12⟩ := hbx.is
        go_wp2_with fail
        refine Calls.mono k36 ?_
        rintro e Wa ⟨rfl, hb⟩
        have hBa := hB.trans (hb.mono hB.size)
        have hxa := hbx.next hb
        have hda := hd.below hb
        have hsa := hb.size
        have k37 := Tryz.scalarKind d t _ _ W4.heap.size [] [] none none 0 0 Wa hda (fun i hi => by simp at hi) (fun i hi => by simp at hi) hsa (Nat.zero_le _) (Nat.zero_le _) (fun _ q hq => by simp at hq) (fun q hq => by simp at hq) (by have := hF.count; omega) (Lib.tabBelow_of_tabIs (Lib.tabBelow_of_tabIs htab _ hBa))
        unfold Ex.v Node.v at k37
        clear k36 hb hB hbx hd c0 c1 c2 c3 c4 c5 c6 c7 c8 c9 c10 c11 c12
        generalize (koBy (nodeR [] []) [] t).1 = z1 at k37 ⊢
        generalize (koBy (nodeR [] []) [] t).2 = z2 at k37 ⊢
        obtain ⟨c0, c1, c2, c3, c4, c5, c6, c7, c8, c9, c10, c11, c12⟩ := hxa.is
        go_wp2_with fail
        refine Calls.mono k37 ?_
        rintro e Wb ⟨rfl, hb⟩
        have hBb := hBa.trans (hb.mono hBa.size)
        have hxb := hxa.next hb
        have hdb := hda.below (hb.mono hsa)
        have hsb := Nat.le_trans hsa hb.size
        have k42 := Tryz.exprTextV d t _ _ W4.heap.size Wb hdb hF.lim hsb hF.text (Lib.tabBelow_of_tabIs (Lib.tabBelow_of_tabIs htab _ hBb))
        unfold Ex.v Node.v at k42
        clear k37 hb hBa hxa hda hsa c0 c1 c2 c3 c4 c5 c6 c7 c8 c9 c10 c11 c12
        obtain ⟨c0, c1, c2, c3, c4, c5, c6, c7, c8, c9, c10, c11, c12⟩ := hxb.is
        obtain ⟨q1, q2, hq⟩ : ∃ q1 q2, saidT t = .tuple #[.string q1, .int .i64 q2] := ⟨_, _, rfl⟩
        rw [hq] at k42
        go_wp2_with fail
        refine Calls.mono k42 ?_
        rintro e Wc ⟨rfl, hb⟩
        have hBc := hBb.trans (hb.mono hBb.size)
        have hxc := hxb.next hb
        have hdc := hdb.below (hb.mono hsb)
        have hsc := Nat.le_trans hsb hb.size
        have k43 := Tryz.scalarTextR d t _ _ W4.heap.size Wc hdc hF.lim hsc hF.text (by have := hF.count; omega) (Lib.tabBelow_of_tabIs (Lib.tabBelow_of_tabIs htab _ hBc))
        unfold Ex.v Node.v at k43
        rw [hq] at k43
        clear k42 hb hBb hxb hdb hsb hq c0 c1 c2 c3 c4 c5 c6 c7 c8 c9 c10 c11 c12
        obtain ⟨c0, c1, c2, c3, c4, c5, c6, c7, c8, c9, c10, c11, c12⟩ := hxc.is
        go_wp2_with fail
        refine Calls.mono k43 ?_
        rintro e Wd ⟨rfl, hb⟩
        have hBd := hBc.trans (hb.mono hBc.size)
        clear k43 hb hBc hxc hdc hsc c0 c1 c2 c3 c4 c5 c6 c7 c8 c9 c10 c11 c12
        go_wp2_with fail
        refine Calls.mono (Tryz.rep1 _) ?_
        rintro e We ⟨rfl, hb⟩
        have hBe := hBd.trans (hb.mono hBd.size)
        clear hb hBd
        go_wp2_with fail
        refine Calls.mono (Tryz.rep2 _) ?_
        rintro e Wf ⟨rfl, hb⟩
        have hBf := hBe.trans (hb.mono hBe.size)
        clear hb hBe
        go_wp2_with fail
        rw [deep_is]
        refine Calls.mono (Tryz.readDeep Wf (Lib.tabBelow_of_tabIs (Lib.tabBelow_of_tabIs htab _ hBf))) ?_
        rintro e Wg ⟨rfl, hb⟩
        have hBg := hBf.trans (hb.mono hBf.size)
        clear hb hBf
        unfold noExpr
        go_wp2_with fail
        have hb1 := (Below.refl Wg.heap.size Wg).alloc (Nat.le_refl _) (.cells #[.int .i64 0, .int .i64 0, .int .i64 0, .int .i64 0, .int .i64 0, .string ⟨#[]⟩, .string ⟨#[]⟩, .string ⟨#[]⟩, .bool false, .slice none 0 0, .slice none 0 0, .slice none 0 0, .slice none 0 0] 57)
        have hBh := hBg.trans (hb1.mono hBg.size)
        refine Calls.mono (Tryz.values_calls _ (Lib.tabBelow_of_tabIs htab _ hBh)) ?_
        rintro e Wi ⟨rfl, hb⟩
        have hBi := hBh.trans (hb.mono hBh.size)
        clear hb hb1 hBg hBh
        go_wp2_with fail
        go_ret
        exact ⟨rfl, hBi⟩
      | true =>
        have hcon := Tryz.constant 0 0 ⟨#[]⟩ W4
        unfold valV at hcon
        go_wp2_with fail
        refine Calls.mono hcon ?_
        rintro e W5 ⟨rfl, hb5⟩
        replace h8 := h8.call hb5
        clear hcon hb5 hF
        have hX := heap_alloc_new W5 (.cells (nulX.cells (.slice none 0 0)) 57)
        have h9 := h8.call ((Below.refl _ _).alloc (Nat.le_refl _) (.cells (nulX.cells (.slice none 0 0)) 57))
        have hy5 := h8.ylt
        obtain ⟨W6, hW6⟩ : ∃ W6, W6 = W5.alloc (.cells (nulX.cells (.slice none 0 0)) 57) := ⟨_, rfl⟩
        rw [← hW6] at hX h9
        have h6s : W6.heap.size = W5.heap.size + 1 := by rw [hW6]; exact ex_alloc_size _ _
        simp only [nulX, leafX, Node.cells] at hW6
        have hrow := heap_alloc_new W6 (.cells #[.int .i64 398, .int .i64 399, .int .i64 400, .int .i64 401] 3)
        have h10 := h9.call ((Below.refl _ _).alloc (Nat.le_refl _) (.cells #[.int .i64 398, .int .i64 399, .int .i64 400, .int .i64 401] 3))
        have hX2 := (heap_alloc_old W6 (.cells #[.int .i64 398, .int .i64 399, .int .i64 400, .int .i64 401] 3) (blk_lt hX)).trans hX
        have hg5 : W5.heap.size ≠ g := by have := h8.live.lt; omega
        have hg6 : W6.heap.size ≠ g := by have := h9.live.lt; omega
        rw [h6s] at hrow hg6
        clear h6s
        replace hW6 := Lib.hid hW6
        clear h8 h9 hX
        simp only [Node.v, Node.cells, leafX]
        go_wp2_with fail
        rw [← hW6.out]
        clear hW6
        refine Calls.mono (Tryz.pickL h10.live (by omega) (W5.heap.size + 1) 4 [398, 399, 400, 401] rfl hg6 hrow (by decide) (by decide)) ?_
        rintro e W7 ⟨r, hr, rfl, hL7, hT7⟩
        have h11 := h10.turn hT7 hL7
        have hX3 := hT7.block hX2 hg5
        clear h10 hX2 hrow hL7 hT7 hg5 hg6
        obtain ⟨n, rfl, hn1, hn2⟩ : ∃ n : Nat, r = n ∧ 398 ≤ n ∧ n ≤ 401 := by
          simp only [List.mem_cons, List.mem_nil_iff, or_false] at hr
          exact ⟨r.toNat, by omega, by omega, by omega⟩
        clear hr
        have hrp := Tryz.repeat1 (nulX.cells (.slice none 0 0)).toList rfl (by
          intro v hv
          simp [nulX, leafX, Node.cells] at hv
          rcases hv with rfl | rfl | rfl | rfl | rfl <;> rfl) W5.heap.size n W7 hX3 (by omega) (by omega)
        go_wp2_with fail
        refine Calls.mono hrp ?_
        rintro e W8 ⟨rfl, hq8, hs8, hb8⟩
        have h12 := h11.call hb8
        have hy7 := h11.ylt
        have ht := TreeAt.over (W := W8) (p := W7.heap.size) (L := y + 1) (C := 1000) (cap := n) (l := List.replicate n ((.mk nulX [], none, 0) : Ex × Option Addr × Nat)) inX ⟨Nat.zero_le _, Nat.zero_le _, Nat.zero_le _⟩ (by rw [rowC_rep]; exact hq8) hy7 (by
          intro t ht
          rw [List.eq_of_mem_replicate ht]
          exact ⟨1, ⟨Nat.zero_le _, Nat.zero_le _, Nat.zero_le _⟩, Nat.zero_le _, Nat.le_refl _, fun i hi => by simp [Ex.args] at hi⟩) (by simp; omega) (by
          rw [← countL_map, List.map_replicate, (restN n).2]; omega) (by simp)
        rw [List.map_replicate] at ht
        have hin : (Ex.mk inX (List.replicate n (Ex.mk nulX []))) = inN n := rfl
        have h13 := At8.set (t' := .mk inX (List.replicate n (.mk nulX []))) h12 ht
        dsimp only [Ex.node, Ex.args] at h13
        rw [List.length_replicate] at h13
        rw [hin] at h13
        have hF := inN_fine (n := n) (by omega) (by omega)
        have hfz : ∀ o, W8.frozen? ⟨y, o, none⟩ = false := fun o => h12.box.froz o
        obtain ⟨c0, c1, c2, c3, c4, c5, c6, c7, c8, c9, c10, c11, c12⟩ := h12.box.is
        clear ht hin hrp hX3 h11 h12 hq8 hs8 hb8
        obtain ⟨W9, hW9⟩ : ∃ W9, W9 = set13 W8 y inX (.slice (some ⟨W7.heap.size, 0, none⟩) n n) := ⟨_, rfl⟩
        rw [← hW9] at h13
        simp only [set13, inX] at hW9
        replace hW9 := Lib.hid hW9
        go_upto_region 9 with fail
        rw [← hW9.out]
        clear hW9 hfz c0 c1 c2 c3 c4 c5 c6 c7 c8 c9 c10 c11 c12
        generalize inN n = t at h13 hF
        have h8 := h13
        clear h13
        obtain ⟨d, hd0⟩ := h8.tree.1
        have hd := hd0.is (N := W9.heap.size) (fun p hp => hp.2)
        have hB : Below w.heap.size w W9 := by rw [hg.out]; exact h8.below
        have hbx := h8.box
        clear hd0 h8 
        have hko := ko_law [] [] t (fun _ q hq => by simp at hq) (fun q hq => by simp at hq) (by have := hF.count; omega)
        have k36 := Tryz.kindOf d t _ _ W9.heap.size [] [] none none 0 0 W9 hd (fun i hi => by simp at hi) (fun i hi => by simp at hi) (Nat.le_refl _) (Nat.zero_le _) (Nat.zero_le _) (fun _ q hq => by simp at hq) (fun q hq => by simp at hq) (Lib.tabBelow_of_tabIs (Lib.tabBelow_of_tabIs htab _ hB))
        rw [hko] at k36
        clear hko
        unfold Ex.v Node.v at k36
        obtain ⟨c0, c1, c2, c3, c4, c5, c6, c7, c8, c9, c10, c11, c12⟩ := hbx.is
        go_wp2_with fail
        refine Calls.mono k36 ?_
        rintro e Wa ⟨rfl, hb⟩
        have hBa := hB.trans (hb.mono hB.size)
        have hxa := hbx.next hb
        have hda := hd.below hb
        have hsa := hb.size
        have k37 := Tryz.scalarKind d t _ _ W9.heap.size [] [] none none 0 0 Wa hda (fun i hi => by simp at hi) (fun i hi => by simp at hi) hsa (Nat.zero_le _) (Nat.zero_le _) (fun _ q hq => by simp at hq) (fun q hq => by simp at hq) (by have := hF.count; omega) (Lib.tabBelow_of_tabIs (Lib.tabBelow_of_tabIs htab _ hBa))
        unfold Ex.v Node.v at k37
        clear k36 hb hB hbx hd c0 c1 c2 c3 c4 c5 c6 c7 c8 c9 c10 c11 c12
        generalize (koBy (nodeR [] []) [] t).1 = z1 at k37 ⊢
        generalize (koBy (nodeR [] []) [] t).2 = z2 at k37 ⊢
        obtain ⟨c0, c1, c2, c3, c4, c5, c6, c7, c8, c9, c10, c11, c12⟩ := hxa.is
        go_wp2_with fail
        refine Calls.mono k37 ?_
        rintro e Wb ⟨rfl, hb⟩
        have hBb := hBa.trans (hb.mono hBa.size)
        have hxb := hxa.next hb
        have hdb := hda.below (hb.mono hsa)
        have hsb := Nat.le_trans hsa hb.size
        have k42 := Tryz.exprTextV d t _ _ W9.heap.size Wb hdb hF.lim hsb hF.text (Lib.tabBelow_of_tabIs (Lib.tabBelow_of_tabIs htab _ hBb))
        unfold Ex.v Node.v at k42
        clear k37 hb hBa hxa hda hsa c0 c1 c2 c3 c4 c5 c6 c7 c8 c9 c10 c11 c12
        obtain ⟨c0, c1, c2, c3, c4, c5, c6, c7, c8, c9, c10, c11, c12⟩ := hxb.is
        obtain ⟨q1, q2, hq⟩ : ∃ q1 q2, saidT t = .tuple #[.string q1, .int .i64 q2] := ⟨_, _, rfl⟩
        rw [hq] at k42
        go_wp2_with fail
        refine Calls.mono k42 ?_
        rintro e Wc ⟨rfl, hb⟩
        have hBc := hBb.trans (hb.mono hBb.size)
        have hxc := hxb.next hb
        have hdc := hdb.below (hb.mono hsb)
        have hsc := Nat.le_trans hsb hb.size
        have k43 := Tryz.scalarTextR d t _ _ W9.heap.size Wc hdc hF.lim hsc hF.text (by have := hF.count; omega) (Lib.tabBelow_of_tabIs (Lib.tabBelow_of_tabIs htab _ hBc))
        unfold Ex.v Node.v at k43
        rw [hq] at k43
        clear k42 hb hBb hxb hdb hsb hq c0 c1 c2 c3 c4 c5 c6 c7 c8 c9 c10 c11 c12
        obtain ⟨c0, c1, c2, c3, c4, c5, c6, c7, c8, c9, c10, c11, c12⟩ := hxc.is
        go_wp2_with fail
        refine Calls.mono k43 ?_
        rintro e Wd ⟨rfl, hb⟩
        have hBd := hBc.trans (hb.mono hBc.size)
        clear k43 hb hBc hxc hdc hsc c0 c1 c2 c3 c4 c5 c6 c7 c8 c9 c10 c11 c12
        go_wp2_with fail
        refine Calls.mono (Tryz.rep1 _) ?_
        rintro e We ⟨rfl, hb⟩
        have hBe := hBd.trans (hb.mono hBd.size)
        clear hb hBd
        go_wp2_with fail
        refine Calls.mono (Tryz.rep2 _) ?_
        rintro e Wf ⟨rfl, hb⟩
        have hBf := hBe.trans (hb.mono hBe.size)
        clear hb hBe
        go_wp2_with fail
        rw [deep_is]
        refine Calls.mono (Tryz.readDeep Wf (Lib.tabBelow_of_tabIs (Lib.tabBelow_of_tabIs htab _ hBf))) ?_
        rintro e Wg ⟨rfl, hb⟩
        have hBg := hBf.trans (hb.mono hBf.size)
        clear hb hBf
        unfold noExpr
        go_wp2_with fail
        have hb1 := (Below.refl Wg.heap.size Wg).alloc (Nat.le_refl _) (.cells #[.int .i64 0, .int .i64 0, .int .i64 0, .int .i64 0, .int .i64 0, .string ⟨#[]⟩, .string ⟨#[]⟩, .string ⟨#[]⟩, .bool false, .slice none 0 0, .slice none 0 0, .slice none 0 0, .slice none 0 0] 57)
        have hBh := hBg.trans (hb1.mono hBg.size)
        refine Calls.mono (Tryz.values_calls _ (Lib.tabBelow_of_tabIs htab _ hBh)) ?_
        rintro e Wi ⟨rfl, hb⟩
        have hBi := hBh.trans (hb.mono hBh.size)
        clear hb hb1 hBg hBh
        go_wp2_with fail
        go_ret
        exact ⟨rfl, hBi⟩
end Go.Proofs
