/- Of package value: Cast. No condition but what the library's variables hold. -/
import Derived.Test.YtmnlcldhhlkpeaaGreatDoorCastB
namespace Go.Proofs
open Go.RowKit

noncomputable def castP (p : Val) (k : Int) : Val :=
  if p.k = 0 ∨ canB p.k k = false then Val.zero
  else if p.k = k then p
  else if k = 3 then textV (shownV p)
  else if p.k = 3 then fromV p.s k
  else if k = 1 then boolV (decide (p.n ≠ 0))
  else numV k p.n

theorem castV_p (x : Val) (k : Int) : castV x k = castP x.plain k := rfl

theorem castP_no {p : Val} {k : Int} (h : p.k = 0 ∨ canB p.k k = false) : castP p k = Val.zero := by
  unfold castP
  rw [if_pos h]

theorem castP_is {p : Val} {k : Int} (h0 : p.k ≠ 0) (hc : canB p.k k = true) : castP p k = if p.k = k then p else if k = 3 then textV (shownV p) else if p.k = 3 then fromV p.s k else if k = 1 then boolV (decide (p.n ≠ 0)) else numV k p.n := by
  unfold castP
  rw [if_neg (by rintro (h | h); exact h0 h; rw [hc] at h; cases h)]

theorem bytes_true : trueB.size = 4 := rfl
theorem bytes_false : falseB.size = 5 := rfl

theorem shown_size {p : Val} (hf : p.fine = true) (h0 : p.k ≠ 0) : (shownV p).size ≤ 400 := by
  have hs := fine_size hf
  rcases fine_is hf h0 with ⟨hk, hn, hs'⟩ | ⟨hk, hn, hs'⟩ | ⟨hk, hn⟩ | ⟨hk, hn, hs'⟩
  all_goals
    obtain ⟨k, n, s⟩ := p
    simp only at hk hn hs
    subst hk
  · simp only at hs'
    subst hs'
    rw [shown1]
    split
    · rw [bytes_true]; omega
    · rw [bytes_false]; omega
  · simp only at hs'
    subst hs'
    rw [shown2, itoaB_size]
    have := Lib.itoa_length_le n (by omega) (by omega)
    omega
  · rw [shown3]; omega
  · simp only at hs'
    subst hs'
    rw [shown4]
    have := dtext_size hn.1 hn.2
    omega

set_option maxRecDepth 20000 in
set_option maxHeartbeats 4000000 in
theorem Tryz.castF {N : Nat} (x : Val) (k : Int) (hx : x.s.size ≤ 1000) (hk : 1 ≤ k ∧ k ≤ 4) (w : World) (hL : Lit N w) (hN : N ≤ w.heap.size) :
    Calls Tryz.prog 16 #[x.v, .int .i64 k] w fun e w' => e = .returned (castV x k).v ∧ Below w.heap.size w w' := by
  have hA := (BoxAt.new x (Below.refl w.heap.size w)).alloc (.cells #[.int .i64 0, .int .i64 0, .string ⟨#[]⟩] 23)
  have hR := BoxAt.new Val.zero (BoxAt.new x (Below.refl w.heap.size w)).hb
  have hg : w.heap.size ≠ (w.alloc (.cells #[.int .i64 x.k, .int .i64 x.n, .string x.s] 23)).heap.size := by rw [alloc_size]; omega
  show Calls Tryz.prog 16 #[.agg #[.int .i64 x.k, .int .i64 x.n, .string x.s], .int .i64 k] w _
  go_enter Tryz.func16, Tryz.ntmps16
  go_wp2_with fail
  change BoxAt w ((w.alloc (.cells #[.int .i64 x.k, .int .i64 x.n, .string x.s] 23)).alloc (.cells #[.int .i64 0, .int .i64 0, .string ⟨#[]⟩] 23)) (w.alloc (.cells #[.int .i64 x.k, .int .i64 x.n, .string x.s] 23)).heap.size Val.zero at hR
  have e1 : (w.alloc (.cells #[.int .i64 x.k, .int .i64 x.n, .string x.s] 23)).heap.size = w.heap.size + 1 := alloc_size _ _
  rw [e1] at hR hg
  generalize (w.alloc (.cells #[.int .i64 x.k, .int .i64 x.n, .string x.s] 23)).alloc (.cells #[.int .i64 0, .int .i64 0, .string ⟨#[]⟩] 23) = W0 at hA hR ⊢
  clear e1
  refine (Tryz.plainV x.k x.n x.s (by omega) _).mono ?_
  rintro e w1 ⟨rfl, hb1⟩
  replace hA := hA.next hb1
  replace hR := hR.next hb1
  clear hb1
  obtain ⟨⟨c0, c1, c2⟩, f0, f1, f2⟩ := hA.cells
  simp only [Val.v, valV]
  go_upto_region 2 with fail
  clear c0 c1 c2 f0 f1 f2
  replace hR := hR.other x.plain hA hg
  replace hA := hA.set x.plain
  have hS := castV_p x k
  have hpf : x.plain.k ≠ 0 → x.plain.fine = true := fun h => by rw [(plain_k h).2]; exact (plain_k h).1
  generalize x.plain = p at hS hpf hA hR ⊢
  generalize ((w1.setCell ⟨w.heap.size, 0, none⟩ (.int .i64 p.k)).setCell ⟨w.heap.size, 1, none⟩ (.int .i64 p.n)).setCell ⟨w.heap.size, 2, none⟩ (.string p.s) = W at hA hR ⊢
  obtain ⟨⟨c0, c1, c2⟩, f0, f1, f2⟩ := hA.cells
  obtain ⟨⟨d0, d1, d2⟩, g0, g1, g2⟩ := free_zero hR.at'
  by_cases h0 : p.k = 0
  · have h : castV x k = Val.zero := hS.trans (castP_no (Or.inl h0))
    have h0b : (p.k == 0) = true := by simp [h0]
    clear hS hpf h0
    go_wp2_with fail
    exact bodyPost_ret (v := Val.zero.v) (res_box Tryz.results16 rfl (hR.set Val.zero).at') rfl ⟨by first | (rw [h]) | rfl, (hR.set Val.zero).hb⟩
  have hf := hpf h0
  have h0b : (p.k == 0) = false := by simp [h0]
  have hC := Tryz.canF p.k k
  cases hc : canB p.k k with
  | false =>
    have h : castV x k = Val.zero := hS.trans (castP_no (Or.inr hc))
    rw [hc] at hC
    clear hS hpf h0 hc hf
    go_wp2_with (go_at_call 17; refine (hC _).mono ?_; rintro e w2 ⟨rfl, rfl⟩)
    exact bodyPost_ret (v := Val.zero.v) (res_box Tryz.results16 rfl (hR.set Val.zero).at') rfl ⟨by first | (rw [h]) | rfl, (hR.set Val.zero).hb⟩
  | true =>
    have hI := hS.trans (castP_is h0 hc)
    rw [hc] at hC
    clear hS hpf hc
    obtain ⟨hL1, hN1⟩ := hR.lit hL hN
    go_upto_region 4 with (go_at_call 17; refine (hC _).mono ?_; rintro e w2 ⟨rfl, rfl⟩)
    clear hC
    by_cases h1 : p.k = k
    · rw [if_pos h1] at hI
      obtain ⟨pk, pn, ps⟩ := p
      obtain rfl : pk = k := h1
      simp only at c0 c1 c2
      clear h0 hf h0b
      go_wp2_with fail
      exact bodyPost_ret (v := (⟨pk, pn, ps⟩ : Val).v) (res_box Tryz.results16 rfl (hR.set ⟨pk, pn, ps⟩).at') rfl ⟨by first | (rw [hI]) | rfl, (hR.set ⟨pk, pn, ps⟩).hb⟩
    rw [if_neg h1] at hI
    have h1b : (p.k == k) = false := by simp [h1]
    have hps := fine_size hf
    by_cases h3 : k = 3
    · rw [if_pos h3] at hI
      subst h3
      have hS : ∀ W, Lit N W → N ≤ W.heap.size → Calls Tryz.prog 46 #[.agg #[.int .i64 p.k, .int .i64 p.n, .string p.s]] W fun e W' => e = .returned (.string (shownV p)) ∧ Below W.heap.size W W' :=
        fun W hL hN => Tryz.shownF p hf h0 W hL hN
      have hz := shown_size hf h0
      clear h0 hf h1
      generalize shownV p = t at hI hS hz
      go_wp2_with fail
      refine (hS _ hL1 hN1).mono ?_
      rintro e w3 ⟨rfl, hb3⟩
      replace hR := hR.next hb3
      go_wp2_with fail
      refine (Tryz.textF t (by omega) _).mono ?_
      rintro e w4 ⟨rfl, hb4⟩
      replace hR := hR.next hb4
      clear c0 c1 c2 f0 f1 f2 d0 d1 d2 g0 g1 g2
      obtain ⟨⟨d0, d1, d2⟩, g0, g1, g2⟩ := free_zero hR.at'
      generalize textV t = r at hI ⊢
      simp only [Val.v, valV]
      go_wp2_with fail
      exact bodyPost_ret (v := r.v) (res_box Tryz.results16 rfl (hR.set r).at') rfl ⟨by first | (rw [hI]) | rfl, (hR.set r).hb⟩
    rw [if_neg h3] at hI
    have h3b : (k == 3) = false := by simp [h3]
    by_cases p3 : p.k = 3
    · rw [if_pos p3] at hI
      obtain ⟨pk, pn, ps⟩ := p
      obtain rfl : pk = 3 := p3
      simp only at c0 c1 c2 hI hps h1b
      clear h0 hf h0b
      have hk' : k = 1 ∨ k = 2 ∨ k = 4 := by omega
      clear h1 h3
      go_wp2_with fail
      refine (Tryz.fromF ps k (by omega) hk' _ hL1 hN1).mono ?_
      rintro e w3 ⟨rfl, hb3⟩
      replace hR := hR.next hb3
      clear c0 c1 c2 f0 f1 f2 d0 d1 d2 g0 g1 g2
      obtain ⟨⟨d0, d1, d2⟩, g0, g1, g2⟩ := free_zero hR.at'
      generalize fromV ps k = r at hI ⊢
      simp only [Val.v, valV]
      go_wp2_with fail
      exact bodyPost_ret (v := r.v) (res_box Tryz.results16 rfl (hR.set r).at') rfl ⟨by first | (rw [hI]) | rfl, (hR.set r).hb⟩
    rw [if_neg p3] at hI
    have p3b : (p.k == 3) = false := by simp [p3]
    by_cases k1 : k = 1
    · rw [if_pos k1] at hI
      subst k1
      clear h0 hf h1 h3 p3
      by_cases hn : p.n = 0
      · have hI' : castV x 1 = boolV false := by rw [hI, decide_eq_false (by simp [hn])]
        have hnb : (p.n != 0) = false := by simp [hn]
        clear hI
        go_wp2_with fail
        refine (Tryz.boolean false _).mono ?_
        rintro e w3 ⟨rfl, hb3⟩
        replace hR := hR.next hb3
        clear c0 c1 c2 f0 f1 f2 d0 d1 d2 g0 g1 g2
        obtain ⟨⟨d0, d1, d2⟩, g0, g1, g2⟩ := free_zero hR.at'
        generalize boolV false = r at hI' ⊢
        simp only [Val.v, valV]
        go_wp2_with fail
        exact bodyPost_ret (v := r.v) (res_box Tryz.results16 rfl (hR.set r).at') rfl ⟨by first | (rw [hI']) | rfl, (hR.set r).hb⟩
      · have hI' : castV x 1 = boolV true := by rw [hI, decide_eq_true hn]
        have hnb : (p.n != 0) = true := by simp [hn]
        clear hI
        go_wp2_with fail
        refine (Tryz.boolean true _).mono ?_
        rintro e w3 ⟨rfl, hb3⟩
        replace hR := hR.next hb3
        clear c0 c1 c2 f0 f1 f2 d0 d1 d2 g0 g1 g2
        obtain ⟨⟨d0, d1, d2⟩, g0, g1, g2⟩ := free_zero hR.at'
        generalize boolV true = r at hI' ⊢
        simp only [Val.v, valV]
        go_wp2_with fail
        exact bodyPost_ret (v := r.v) (res_box Tryz.results16 rfl (hR.set r).at') rfl ⟨by first | (rw [hI']) | rfl, (hR.set r).hb⟩
    rw [if_neg k1] at hI
    have k1b : (k == 1) = false := by simp [k1]
    clear h0 h1 h3 p3 k1 hf
    go_wp2_with fail
    refine (Tryz.number k p.n _).mono ?_
    rintro e w3 ⟨rfl, hb3⟩
    replace hR := hR.next hb3
    clear c0 c1 c2 f0 f1 f2 d0 d1 d2 g0 g1 g2
    obtain ⟨⟨d0, d1, d2⟩, g0, g1, g2⟩ := free_zero hR.at'
    change castV x k = Val.plain ⟨k, p.n, ⟨#[]⟩⟩ at hI
    generalize Val.plain ⟨k, p.n, ⟨#[]⟩⟩ = r at hI ⊢
    simp only [Val.v, valV]
    go_wp2_with fail
    exact bodyPost_ret (v := r.v) (res_box Tryz.results16 rfl (hR.set r).at') rfl ⟨by first | (rw [hI]) | rfl, (hR.set r).hb⟩

end Go.Proofs
