/- Of the document's package: only, with its other words. The condition: the library's table of white space. -/
import Derived.Test.YtkpligcifakmjaaGreatDoorOnly
namespace Go.Proofs
open Go.RowKit Go.Ke

set_option maxRecDepth 20000 in
set_option maxHeartbeats 2000000 in
theorem Tryz.only_a0 (k op nn vk vn : Int) (vs src name : ByteArray) (dist : Bool) (ad : Option Addr) (n cap : Nat) (hf : (op == 0) = false) (w : World) (hJ : spaceTab w.heap.size w) : Calls Tryz.prog 163 #[Node.v ⟨k, op, nn, vk, vn, vs, src, name, dist⟩ (.slice ad n cap), .string ⟨#[97]⟩] w fun e w' => e = .returned (.bool false) ∧ Below w.heap.size w w' := by
  have h := On.start hJ ⟨k, op, nn, vk, vn, vs, src, name, dist⟩ (.slice ad n cap) ⟨#[97]⟩
  have hgd := guard23
  have hne := eql23
  unfold Node.v
  go_enter Tryz.func163, Tryz.ntmps163
  simp only [List.append]
  go_upto_region 1 with fail
  generalize (World.alloc (World.alloc w _) _) = W1 at h ⊢
  clear hJ
  obtain ⟨c0, c1, c2, c3, c4, c5, c6, c7, c8, c9, c10, c11, c12⟩ := h.box.is
  simp only at c0 c1 c2 c3 c4 c5 c6 c7 c8
  go_wp2_with ((first
    | (go_at_call 218; with_reducible refine Calls.mono (Tryz.has _ _ _ _ _ tab_a_o h.word h.tab) ?_)
    | (go_at_call 218; with_reducible refine Calls.mono (Tryz.has _ _ _ _ _ tab_a_n h.word h.tab) ?_)
    | (go_at_call 218; with_reducible refine Calls.mono (Tryz.has _ _ _ _ _ tab_a_v h.word h.tab) ?_)
    | (go_at_call 218; with_reducible refine Calls.mono (Tryz.has _ _ _ _ _ tab_a_c h.word h.tab) ?_)
    | (go_at_call 218; with_reducible refine Calls.mono (Tryz.has _ _ _ _ _ tab_a_d h.word h.tab) ?_)
    | (go_at_call 218; with_reducible refine Calls.mono (Tryz.has _ _ _ _ _ tab_a_a h.word h.tab) ?_)
    | (go_at_call 218; with_reducible refine Calls.mono (Tryz.has _ _ _ _ _ tab_a_s h.word h.tab) ?_)
    | (go_at_call 218; with_reducible refine Calls.mono (Tryz.has _ _ _ _ _ tab_a_g h.word h.tab) ?_)
    | (go_at_call 218; with_reducible refine Calls.mono (Tryz.has _ _ _ _ _ tab_a_r h.word h.tab) ?_)); rintro e w2 ⟨rfl, hb2⟩; clear c0 c1 c2 c3 c4 c5 c6 c7 c8 c9 c10 c11 c12; have h2 := h.next hb2; clear hb2 h; have h := h2; clear h2; obtain ⟨c0, c1, c2, c3, c4, c5, c6, c7, c8, c9, c10, c11, c12⟩ := h.box.is; simp only at c0 c1 c2 c3 c4 c5 c6 c7 c8)
  all_goals
    go_ret
    exact ⟨rfl, h.below⟩

set_option maxRecDepth 20000 in
set_option maxHeartbeats 2000000 in
theorem Tryz.only_a1 (k nn vk vn : Int) (vs src name : ByteArray) (dist : Bool) (ad : Option Addr) (n cap : Nat) (hf : (nn == 0) = false) (w : World) (hJ : spaceTab w.heap.size w) : Calls Tryz.prog 163 #[Node.v ⟨k, 0, nn, vk, vn, vs, src, name, dist⟩ (.slice ad n cap), .string ⟨#[97]⟩] w fun e w' => e = .returned (.bool false) ∧ Below w.heap.size w w' := by
  have h := On.start hJ ⟨k, 0, nn, vk, vn, vs, src, name, dist⟩ (.slice ad n cap) ⟨#[97]⟩
  have hgd := guard23
  have hne := eql23
  unfold Node.v
  go_enter Tryz.func163, Tryz.ntmps163
  simp only [List.append]
  go_upto_region 1 with fail
  generalize (World.alloc (World.alloc w _) _) = W1 at h ⊢
  clear hJ
  obtain ⟨c0, c1, c2, c3, c4, c5, c6, c7, c8, c9, c10, c11, c12⟩ := h.box.is
  simp only at c0 c1 c2 c3 c4 c5 c6 c7 c8
  go_wp2_with ((first
    | (go_at_call 218; with_reducible refine Calls.mono (Tryz.has _ _ _ _ _ tab_a_o h.word h.tab) ?_)
    | (go_at_call 218; with_reducible refine Calls.mono (Tryz.has _ _ _ _ _ tab_a_n h.word h.tab) ?_)
    | (go_at_call 218; with_reducible refine Calls.mono (Tryz.has _ _ _ _ _ tab_a_v h.word h.tab) ?_)
    | (go_at_call 218; with_reducible refine Calls.mono (Tryz.has _ _ _ _ _ tab_a_c h.word h.tab) ?_)
    | (go_at_call 218; with_reducible refine Calls.mono (Tryz.has _ _ _ _ _ tab_a_d h.word h.tab) ?_)
    | (go_at_call 218; with_reducible refine Calls.mono (Tryz.has _ _ _ _ _ tab_a_a h.word h.tab) ?_)
    | (go_at_call 218; with_reducible refine Calls.mono (Tryz.has _ _ _ _ _ tab_a_s h.word h.tab) ?_)
    | (go_at_call 218; with_reducible refine Calls.mono (Tryz.has _ _ _ _ _ tab_a_g h.word h.tab) ?_)
    | (go_at_call 218; with_reducible refine Calls.mono (Tryz.has _ _ _ _ _ tab_a_r h.word h.tab) ?_)); rintro e w2 ⟨rfl, hb2⟩; clear c0 c1 c2 c3 c4 c5 c6 c7 c8 c9 c10 c11 c12; have h2 := h.next hb2; clear hb2 h; have h := h2; clear h2; obtain ⟨c0, c1, c2, c3, c4, c5, c6, c7, c8, c9, c10, c11, c12⟩ := h.box.is; simp only at c0 c1 c2 c3 c4 c5 c6 c7 c8)
  all_goals
    go_ret
    exact ⟨rfl, h.below⟩

set_option maxRecDepth 20000 in
set_option maxHeartbeats 2000000 in
theorem Tryz.only_a2 (k vk vn : Int) (vs src name : ByteArray) (dist : Bool) (ad : Option Addr) (n cap : Nat) (hf : eq3 vk vn vs 0 0 ⟨#[]⟩ = false) (w : World) (hJ : spaceTab w.heap.size w) : Calls Tryz.prog 163 #[Node.v ⟨k, 0, 0, vk, vn, vs, src, name, dist⟩ (.slice ad n cap), .string ⟨#[97]⟩] w fun e w' => e = .returned (.bool false) ∧ Below w.heap.size w w' := by
  have h := On.start hJ ⟨k, 0, 0, vk, vn, vs, src, name, dist⟩ (.slice ad n cap) ⟨#[97]⟩
  have hgd := guard23
  have hne := eql23
  unfold Node.v
  go_enter Tryz.func163, Tryz.ntmps163
  simp only [List.append]
  go_upto_region 1 with fail
  generalize (World.alloc (World.alloc w _) _) = W1 at h ⊢
  clear hJ
  obtain ⟨c0, c1, c2, c3, c4, c5, c6, c7, c8, c9, c10, c11, c12⟩ := h.box.is
  simp only at c0 c1 c2 c3 c4 c5 c6 c7 c8
  go_wp2_with ((first
    | (go_at_call 218; with_reducible refine Calls.mono (Tryz.has _ _ _ _ _ tab_a_o h.word h.tab) ?_)
    | (go_at_call 218; with_reducible refine Calls.mono (Tryz.has _ _ _ _ _ tab_a_n h.word h.tab) ?_)
    | (go_at_call 218; with_reducible refine Calls.mono (Tryz.has _ _ _ _ _ tab_a_v h.word h.tab) ?_)
    | (go_at_call 218; with_reducible refine Calls.mono (Tryz.has _ _ _ _ _ tab_a_c h.word h.tab) ?_)
    | (go_at_call 218; with_reducible refine Calls.mono (Tryz.has _ _ _ _ _ tab_a_d h.word h.tab) ?_)
    | (go_at_call 218; with_reducible refine Calls.mono (Tryz.has _ _ _ _ _ tab_a_a h.word h.tab) ?_)
    | (go_at_call 218; with_reducible refine Calls.mono (Tryz.has _ _ _ _ _ tab_a_s h.word h.tab) ?_)
    | (go_at_call 218; with_reducible refine Calls.mono (Tryz.has _ _ _ _ _ tab_a_g h.word h.tab) ?_)
    | (go_at_call 218; with_reducible refine Calls.mono (Tryz.has _ _ _ _ _ tab_a_r h.word h.tab) ?_)); rintro e w2 ⟨rfl, hb2⟩; clear c0 c1 c2 c3 c4 c5 c6 c7 c8 c9 c10 c11 c12; have h2 := h.next hb2; clear hb2 h; have h := h2; clear h2; obtain ⟨c0, c1, c2, c3, c4, c5, c6, c7, c8, c9, c10, c11, c12⟩ := h.box.is; simp only at c0 c1 c2 c3 c4 c5 c6 c7 c8)
  all_goals
    go_ret
    exact ⟨rfl, h.below⟩

set_option maxRecDepth 20000 in
set_option maxHeartbeats 2000000 in
theorem Tryz.only_a3 (k vk vn : Int) (vs src name : ByteArray) (dist : Bool) (ad : Option Addr) (n cap : Nat) (hv : eq3 vk vn vs 0 0 ⟨#[]⟩ = true) (hf : ¬ src.toList = []) (w : World) (hJ : spaceTab w.heap.size w) : Calls Tryz.prog 163 #[Node.v ⟨k, 0, 0, vk, vn, vs, src, name, dist⟩ (.slice ad n cap), .string ⟨#[97]⟩] w fun e w' => e = .returned (.bool false) ∧ Below w.heap.size w w' := by
  have h := On.start hJ ⟨k, 0, 0, vk, vn, vs, src, name, dist⟩ (.slice ad n cap) ⟨#[97]⟩
  have hgd := guard23
  have hne := eql23
  unfold Node.v
  go_enter Tryz.func163, Tryz.ntmps163
  simp only [List.append]
  go_upto_region 1 with fail
  generalize (World.alloc (World.alloc w _) _) = W1 at h ⊢
  clear hJ
  obtain ⟨c0, c1, c2, c3, c4, c5, c6, c7, c8, c9, c10, c11, c12⟩ := h.box.is
  simp only at c0 c1 c2 c3 c4 c5 c6 c7 c8
  go_wp2_with ((first
    | (go_at_call 218; with_reducible refine Calls.mono (Tryz.has _ _ _ _ _ tab_a_o h.word h.tab) ?_)
    | (go_at_call 218; with_reducible refine Calls.mono (Tryz.has _ _ _ _ _ tab_a_n h.word h.tab) ?_)
    | (go_at_call 218; with_reducible refine Calls.mono (Tryz.has _ _ _ _ _ tab_a_v h.word h.tab) ?_)
    | (go_at_call 218; with_reducible refine Calls.mono (Tryz.has _ _ _ _ _ tab_a_c h.word h.tab) ?_)
    | (go_at_call 218; with_reducible refine Calls.mono (Tryz.has _ _ _ _ _ tab_a_d h.word h.tab) ?_)
    | (go_at_call 218; with_reducible refine Calls.mono (Tryz.has _ _ _ _ _ tab_a_a h.word h.tab) ?_)
    | (go_at_call 218; with_reducible refine Calls.mono (Tryz.has _ _ _ _ _ tab_a_s h.word h.tab) ?_)
    | (go_at_call 218; with_reducible refine Calls.mono (Tryz.has _ _ _ _ _ tab_a_g h.word h.tab) ?_)
    | (go_at_call 218; with_reducible refine Calls.mono (Tryz.has _ _ _ _ _ tab_a_r h.word h.tab) ?_)); rintro e w2 ⟨rfl, hb2⟩; clear c0 c1 c2 c3 c4 c5 c6 c7 c8 c9 c10 c11 c12; have h2 := h.next hb2; clear hb2 h; have h := h2; clear h2; obtain ⟨c0, c1, c2, c3, c4, c5, c6, c7, c8, c9, c10, c11, c12⟩ := h.box.is; simp only at c0 c1 c2 c3 c4 c5 c6 c7 c8)
  all_goals
    go_ret
    exact ⟨rfl, h.below⟩

set_option maxRecDepth 20000 in
set_option maxHeartbeats 2000000 in
theorem Tryz.only_a4 (k vk vn : Int) (vs name : ByteArray) (dist : Bool) (ad : Option Addr) (n cap : Nat) (hv : eq3 vk vn vs 0 0 ⟨#[]⟩ = true) (hf : ¬ name.toList = []) (w : World) (hJ : spaceTab w.heap.size w) : Calls Tryz.prog 163 #[Node.v ⟨k, 0, 0, vk, vn, vs, ⟨#[]⟩, name, dist⟩ (.slice ad n cap), .string ⟨#[97]⟩] w fun e w' => e = .returned (.bool false) ∧ Below w.heap.size w w' := by
  have h := On.start hJ ⟨k, 0, 0, vk, vn, vs, ⟨#[]⟩, name, dist⟩ (.slice ad n cap) ⟨#[97]⟩
  have hgd := guard23
  have hne := eql23
  unfold Node.v
  go_enter Tryz.func163, Tryz.ntmps163
  simp only [List.append]
  go_upto_region 1 with fail
  generalize (World.alloc (World.alloc w _) _) = W1 at h ⊢
  clear hJ
  obtain ⟨c0, c1, c2, c3, c4, c5, c6, c7, c8, c9, c10, c11, c12⟩ := h.box.is
  simp only at c0 c1 c2 c3 c4 c5 c6 c7 c8
  go_wp2_with ((first
    | (go_at_call 218; with_reducible refine Calls.mono (Tryz.has _ _ _ _ _ tab_a_o h.word h.tab) ?_)
    | (go_at_call 218; with_reducible refine Calls.mono (Tryz.has _ _ _ _ _ tab_a_n h.word h.tab) ?_)
    | (go_at_call 218; with_reducible refine Calls.mono (Tryz.has _ _ _ _ _ tab_a_v h.word h.tab) ?_)
    | (go_at_call 218; with_reducible refine Calls.mono (Tryz.has _ _ _ _ _ tab_a_c h.word h.tab) ?_)
    | (go_at_call 218; with_reducible refine Calls.mono (Tryz.has _ _ _ _ _ tab_a_d h.word h.tab) ?_)
    | (go_at_call 218; with_reducible refine Calls.mono (Tryz.has _ _ _ _ _ tab_a_a h.word h.tab) ?_)
    | (go_at_call 218; with_reducible refine Calls.mono (Tryz.has _ _ _ _ _ tab_a_s h.word h.tab) ?_)
    | (go_at_call 218; with_reducible refine Calls.mono (Tryz.has _ _ _ _ _ tab_a_g h.word h.tab) ?_)
    | (go_at_call 218; with_reducible refine Calls.mono (Tryz.has _ _ _ _ _ tab_a_r h.word h.tab) ?_)); rintro e w2 ⟨rfl, hb2⟩; clear c0 c1 c2 c3 c4 c5 c6 c7 c8 c9 c10 c11 c12; have h2 := h.next hb2; clear hb2 h; have h := h2; clear h2; obtain ⟨c0, c1, c2, c3, c4, c5, c6, c7, c8, c9, c10, c11, c12⟩ := h.box.is; simp only at c0 c1 c2 c3 c4 c5 c6 c7 c8)
  all_goals
    go_ret
    exact ⟨rfl, h.below⟩

set_option maxRecDepth 20000 in
set_option maxHeartbeats 2000000 in
theorem Tryz.only_a5 (k vk vn : Int) (vs : ByteArray) (ad : Option Addr) (n cap : Nat) (hv : eq3 vk vn vs 0 0 ⟨#[]⟩ = true) (w : World) (hJ : spaceTab w.heap.size w) : Calls Tryz.prog 163 #[Node.v ⟨k, 0, 0, vk, vn, vs, ⟨#[]⟩, ⟨#[]⟩, true⟩ (.slice ad n cap), .string ⟨#[97]⟩] w fun e w' => e = .returned (.bool false) ∧ Below w.heap.size w w' := by
  have h := On.start hJ ⟨k, 0, 0, vk, vn, vs, ⟨#[]⟩, ⟨#[]⟩, true⟩ (.slice ad n cap) ⟨#[97]⟩
  have hgd := guard23
  have hne := eql23
  unfold Node.v
  go_enter Tryz.func163, Tryz.ntmps163
  simp only [List.append]
  go_upto_region 1 with fail
  generalize (World.alloc (World.alloc w _) _) = W1 at h ⊢
  clear hJ
  obtain ⟨c0, c1, c2, c3, c4, c5, c6, c7, c8, c9, c10, c11, c12⟩ := h.box.is
  simp only at c0 c1 c2 c3 c4 c5 c6 c7 c8
  go_wp2_with ((first
    | (go_at_call 218; with_reducible refine Calls.mono (Tryz.has _ _ _ _ _ tab_a_o h.word h.tab) ?_)
    | (go_at_call 218; with_reducible refine Calls.mono (Tryz.has _ _ _ _ _ tab_a_n h.word h.tab) ?_)
    | (go_at_call 218; with_reducible refine Calls.mono (Tryz.has _ _ _ _ _ tab_a_v h.word h.tab) ?_)
    | (go_at_call 218; with_reducible refine Calls.mono (Tryz.has _ _ _ _ _ tab_a_c h.word h.tab) ?_)
    | (go_at_call 218; with_reducible refine Calls.mono (Tryz.has _ _ _ _ _ tab_a_d h.word h.tab) ?_)
    | (go_at_call 218; with_reducible refine Calls.mono (Tryz.has _ _ _ _ _ tab_a_a h.word h.tab) ?_)
    | (go_at_call 218; with_reducible refine Calls.mono (Tryz.has _ _ _ _ _ tab_a_s h.word h.tab) ?_)
    | (go_at_call 218; with_reducible refine Calls.mono (Tryz.has _ _ _ _ _ tab_a_g h.word h.tab) ?_)
    | (go_at_call 218; with_reducible refine Calls.mono (Tryz.has _ _ _ _ _ tab_a_r h.word h.tab) ?_)); rintro e w2 ⟨rfl, hb2⟩; clear c0 c1 c2 c3 c4 c5 c6 c7 c8 c9 c10 c11 c12; have h2 := h.next hb2; clear hb2 h; have h := h2; clear h2; obtain ⟨c0, c1, c2, c3, c4, c5, c6, c7, c8, c9, c10, c11, c12⟩ := h.box.is; simp only at c0 c1 c2 c3 c4 c5 c6 c7 c8)
  all_goals
    go_ret
    exact ⟨rfl, h.below⟩

set_option maxRecDepth 20000 in
set_option maxHeartbeats 2000000 in
theorem Tryz.only_a6 (k vk vn : Int) (vs : ByteArray) (ad : Option Addr) (n cap : Nat) (hv : eq3 vk vn vs 0 0 ⟨#[]⟩ = true) (w : World) (hJ : spaceTab w.heap.size w) : Calls Tryz.prog 163 #[Node.v ⟨k, 0, 0, vk, vn, vs, ⟨#[]⟩, ⟨#[]⟩, false⟩ (.slice ad n cap), .string ⟨#[97]⟩] w fun e w' => e = .returned (.bool true) ∧ Below w.heap.size w w' := by
  have h := On.start hJ ⟨k, 0, 0, vk, vn, vs, ⟨#[]⟩, ⟨#[]⟩, false⟩ (.slice ad n cap) ⟨#[97]⟩
  have hgd := guard23
  have hne := eql23
  unfold Node.v
  go_enter Tryz.func163, Tryz.ntmps163
  simp only [List.append]
  go_upto_region 1 with fail
  generalize (World.alloc (World.alloc w _) _) = W1 at h ⊢
  clear hJ
  obtain ⟨c0, c1, c2, c3, c4, c5, c6, c7, c8, c9, c10, c11, c12⟩ := h.box.is
  simp only at c0 c1 c2 c3 c4 c5 c6 c7 c8
  go_wp2_with ((first
    | (go_at_call 218; with_reducible refine Calls.mono (Tryz.has _ _ _ _ _ tab_a_o h.word h.tab) ?_)
    | (go_at_call 218; with_reducible refine Calls.mono (Tryz.has _ _ _ _ _ tab_a_n h.word h.tab) ?_)
    | (go_at_call 218; with_reducible refine Calls.mono (Tryz.has _ _ _ _ _ tab_a_v h.word h.tab) ?_)
    | (go_at_call 218; with_reducible refine Calls.mono (Tryz.has _ _ _ _ _ tab_a_c h.word h.tab) ?_)
    | (go_at_call 218; with_reducible refine Calls.mono (Tryz.has _ _ _ _ _ tab_a_d h.word h.tab) ?_)
    | (go_at_call 218; with_reducible refine Calls.mono (Tryz.has _ _ _ _ _ tab_a_a h.word h.tab) ?_)
    | (go_at_call 218; with_reducible refine Calls.mono (Tryz.has _ _ _ _ _ tab_a_s h.word h.tab) ?_)
    | (go_at_call 218; with_reducible refine Calls.mono (Tryz.has _ _ _ _ _ tab_a_g h.word h.tab) ?_)
    | (go_at_call 218; with_reducible refine Calls.mono (Tryz.has _ _ _ _ _ tab_a_r h.word h.tab) ?_)); rintro e w2 ⟨rfl, hb2⟩; clear c0 c1 c2 c3 c4 c5 c6 c7 c8 c9 c10 c11 c12; have h2 := h.next hb2; clear hb2 h; have h := h2; clear h2; obtain ⟨c0, c1, c2, c3, c4, c5, c6, c7, c8, c9, c10, c11, c12⟩ := h.box.is; simp only at c0 c1 c2 c3 c4 c5 c6 c7 c8)
  all_goals
    go_ret
    exact ⟨rfl, h.below⟩

theorem Tryz.only_a (x : Node) (ad : Option Addr) (n cap : Nat) (w : World) (hJ : spaceTab w.heap.size w) : Calls Tryz.prog 163 #[x.v (.slice ad n cap), .string ⟨#[97]⟩] w fun e w' => e = .returned (.bool (onlyB false false false false true x n)) ∧ Below w.heap.size w w' := by
  obtain ⟨k, op, nn, vk, vn, vs, src, name, dist⟩ := x
  by_cases h1 : op = 0
  case neg => skip; exact (Tryz.only_a0 k op nn vk vn vs src name dist ad n cap  (by simpa using h1) w hJ).mono fun e w' h => ⟨h.1.trans (by unfold onlyB; simp [*]), h.2⟩
  subst h1
  by_cases h2 : nn = 0
  case neg => skip; exact (Tryz.only_a1 k nn vk vn vs src name dist ad n cap  (by simpa using h2) w hJ).mono fun e w' h => ⟨h.1.trans (by unfold onlyB; simp [*]), h.2⟩
  subst h2
  by_cases h3 : eq3 vk vn vs 0 0 ⟨#[]⟩ = true
  case neg => skip; exact (Tryz.only_a2 k vk vn vs src name dist ad n cap  (by simpa using h3) w hJ).mono fun e w' h => ⟨h.1.trans (by unfold onlyB; simp [*]), h.2⟩
  by_cases h4 : src.toList = []
  case neg => skip; exact (Tryz.only_a3 k vk vn vs src name dist ad n cap h3 h4 w hJ).mono fun e w' h => ⟨h.1.trans (by unfold onlyB; simp [*]), h.2⟩
  obtain rfl := empty_of h4
  by_cases h5 : name.toList = []
  case neg => skip; exact (Tryz.only_a4 k vk vn vs name dist ad n cap h3 h5 w hJ).mono fun e w' h => ⟨h.1.trans (by unfold onlyB; simp [*]), h.2⟩
  obtain rfl := empty_of h5
  by_cases h6 : dist = false
  case neg => obtain rfl : dist = true := (by cases dist <;> simp_all); exact (Tryz.only_a5 k vk vn vs ad n cap h3  w hJ).mono fun e w' h => ⟨h.1.trans (by unfold onlyB; simp [*]), h.2⟩
  subst h6
  exact (Tryz.only_a6 k vk vn vs ad n cap h3 w hJ).mono fun e w' h => ⟨h.1.trans (by unfold onlyB; simp [*]), h.2⟩

end Go.Proofs

namespace Go.Proofs
open Go.RowKit Go.Ke

set_option maxRecDepth 20000 in
set_option maxHeartbeats 2000000 in
theorem Tryz.only_oa0 (k op nn vk vn : Int) (vs src name : ByteArray) (dist : Bool) (ad : Option Addr) (n cap : Nat) (hf : (nn == 0) = false) (w : World) (hJ : spaceTab w.heap.size w) : Calls Tryz.prog 163 #[Node.v ⟨k, op, nn, vk, vn, vs, src, name, dist⟩ (.slice ad n cap), .string ⟨#[111, 97]⟩] w fun e w' => e = .returned (.bool false) ∧ Below w.heap.size w w' := by
  have h := On.start hJ ⟨k, op, nn, vk, vn, vs, src, name, dist⟩ (.slice ad n cap) ⟨#[111, 97]⟩
  have hgd := guard23
  have hne := eql23
  unfold Node.v
  go_enter Tryz.func163, Tryz.ntmps163
  simp only [List.append]
  go_upto_region 1 with fail
  generalize (World.alloc (World.alloc w _) _) = W1 at h ⊢
  clear hJ
  obtain ⟨c0, c1, c2, c3, c4, c5, c6, c7, c8, c9, c10, c11, c12⟩ := h.box.is
  simp only at c0 c1 c2 c3 c4 c5 c6 c7 c8
  go_wp2_with ((first
    | (go_at_call 218; with_reducible refine Calls.mono (Tryz.has _ _ _ _ _ tab_oa_o h.word h.tab) ?_)
    | (go_at_call 218; with_reducible refine Calls.mono (Tryz.has _ _ _ _ _ tab_oa_n h.word h.tab) ?_)
    | (go_at_call 218; with_reducible refine Calls.mono (Tryz.has _ _ _ _ _ tab_oa_v h.word h.tab) ?_)
    | (go_at_call 218; with_reducible refine Calls.mono (Tryz.has _ _ _ _ _ tab_oa_c h.word h.tab) ?_)
    | (go_at_call 218; with_reducible refine Calls.mono (Tryz.has _ _ _ _ _ tab_oa_d h.word h.tab) ?_)
    | (go_at_call 218; with_reducible refine Calls.mono (Tryz.has _ _ _ _ _ tab_oa_a h.word h.tab) ?_)
    | (go_at_call 218; with_reducible refine Calls.mono (Tryz.has _ _ _ _ _ tab_oa_s h.word h.tab) ?_)
    | (go_at_call 218; with_reducible refine Calls.mono (Tryz.has _ _ _ _ _ tab_oa_g h.word h.tab) ?_)
    | (go_at_call 218; with_reducible refine Calls.mono (Tryz.has _ _ _ _ _ tab_oa_r h.word h.tab) ?_)); rintro e w2 ⟨rfl, hb2⟩; clear c0 c1 c2 c3 c4 c5 c6 c7 c8 c9 c10 c11 c12; have h2 := h.next hb2; clear hb2 h; have h := h2; clear h2; obtain ⟨c0, c1, c2, c3, c4, c5, c6, c7, c8, c9, c10, c11, c12⟩ := h.box.is; simp only at c0 c1 c2 c3 c4 c5 c6 c7 c8)
  all_goals
    go_ret
    exact ⟨rfl, h.below⟩

set_option maxRecDepth 20000 in
set_option maxHeartbeats 2000000 in
theorem Tryz.only_oa1 (k op vk vn : Int) (vs src name : ByteArray) (dist : Bool) (ad : Option Addr) (n cap : Nat) (hf : eq3 vk vn vs 0 0 ⟨#[]⟩ = false) (w : World) (hJ : spaceTab w.heap.size w) : Calls Tryz.prog 163 #[Node.v ⟨k, op, 0, vk, vn, vs, src, name, dist⟩ (.slice ad n cap), .string ⟨#[111, 97]⟩] w fun e w' => e = .returned (.bool false) ∧ Below w.heap.size w w' := by
  have h := On.start hJ ⟨k, op, 0, vk, vn, vs, src, name, dist⟩ (.slice ad n cap) ⟨#[111, 97]⟩
  have hgd := guard23
  have hne := eql23
  unfold Node.v
  go_enter Tryz.func163, Tryz.ntmps163
  simp only [List.append]
  go_upto_region 1 with fail
  generalize (World.alloc (World.alloc w _) _) = W1 at h ⊢
  clear hJ
  obtain ⟨c0, c1, c2, c3, c4, c5, c6, c7, c8, c9, c10, c11, c12⟩ := h.box.is
  simp only at c0 c1 c2 c3 c4 c5 c6 c7 c8
  go_wp2_with ((first
    | (go_at_call 218; with_reducible refine Calls.mono (Tryz.has _ _ _ _ _ tab_oa_o h.word h.tab) ?_)
    | (go_at_call 218; with_reducible refine Calls.mono (Tryz.has _ _ _ _ _ tab_oa_n h.word h.tab) ?_)
    | (go_at_call 218; with_reducible refine Calls.mono (Tryz.has _ _ _ _ _ tab_oa_v h.word h.tab) ?_)
    | (go_at_call 218; with_reducible refine Calls.mono (Tryz.has _ _ _ _ _ tab_oa_c h.word h.tab) ?_)
    | (go_at_call 218; with_reducible refine Calls.mono (Tryz.has _ _ _ _ _ tab_oa_d h.word h.tab) ?_)
    | (go_at_call 218; with_reducible refine Calls.mono (Tryz.has _ _ _ _ _ tab_oa_a h.word h.tab) ?_)
    | (go_at_call 218; with_reducible refine Calls.mono (Tryz.has _ _ _ _ _ tab_oa_s h.word h.tab) ?_)
    | (go_at_call 218; with_reducible refine Calls.mono (Tryz.has _ _ _ _ _ tab_oa_g h.word h.tab) ?_)
    | (go_at_call 218; with_reducible refine Calls.mono (Tryz.has _ _ _ _ _ tab_oa_r h.word h.tab) ?_)); rintro e w2 ⟨rfl, hb2⟩; clear c0 c1 c2 c3 c4 c5 c6 c7 c8 c9 c10 c11 c12; have h2 := h.next hb2; clear hb2 h; have h := h2; clear h2; obtain ⟨c0, c1, c2, c3, c4, c5, c6, c7, c8, c9, c10, c11, c12⟩ := h.box.is; simp only at c0 c1 c2 c3 c4 c5 c6 c7 c8)
  all_goals
    go_ret
    exact ⟨rfl, h.below⟩

set_option maxRecDepth 20000 in
set_option maxHeartbeats 2000000 in
theorem Tryz.only_oa2 (k op vk vn : Int) (vs src name : ByteArray) (dist : Bool) (ad : Option Addr) (n cap : Nat) (hv : eq3 vk vn vs 0 0 ⟨#[]⟩ = true) (hf : ¬ src.toList = []) (w : World) (hJ : spaceTab w.heap.size w) : Calls Tryz.prog 163 #[Node.v ⟨k, op, 0, vk, vn, vs, src, name, dist⟩ (.slice ad n cap), .string ⟨#[111, 97]⟩] w fun e w' => e = .returned (.bool false) ∧ Below w.heap.size w w' := by
  have h := On.start hJ ⟨k, op, 0, vk, vn, vs, src, name, dist⟩ (.slice ad n cap) ⟨#[111, 97]⟩
  have hgd := guard23
  have hne := eql23
  unfold Node.v
  go_enter Tryz.func163, Tryz.ntmps163
  simp only [List.append]
  go_upto_region 1 with fail
  generalize (World.alloc (World.alloc w _) _) = W1 at h ⊢
  clear hJ
  obtain ⟨c0, c1, c2, c3, c4, c5, c6, c7, c8, c9, c10, c11, c12⟩ := h.box.is
  simp only at c0 c1 c2 c3 c4 c5 c6 c7 c8
  go_wp2_with ((first
    | (go_at_call 218; with_reducible refine Calls.mono (Tryz.has _ _ _ _ _ tab_oa_o h.word h.tab) ?_)
    | (go_at_call 218; with_reducible refine Calls.mono (Tryz.has _ _ _ _ _ tab_oa_n h.word h.tab) ?_)
    | (go_at_call 218; with_reducible refine Calls.mono (Tryz.has _ _ _ _ _ tab_oa_v h.word h.tab) ?_)
    | (go_at_call 218; with_reducible refine Calls.mono (Tryz.has _ _ _ _ _ tab_oa_c h.word h.tab) ?_)
    | (go_at_call 218; with_reducible refine Calls.mono (Tryz.has _ _ _ _ _ tab_oa_d h.word h.tab) ?_)
    | (go_at_call 218; with_reducible refine Calls.mono (Tryz.has _ _ _ _ _ tab_oa_a h.word h.tab) ?_)
    | (go_at_call 218; with_reducible refine Calls.mono (Tryz.has _ _ _ _ _ tab_oa_s h.word h.tab) ?_)
    | (go_at_call 218; with_reducible refine Calls.mono (Tryz.has _ _ _ _ _ tab_oa_g h.word h.tab) ?_)
    | (go_at_call 218; with_reducible refine Calls.mono (Tryz.has _ _ _ _ _ tab_oa_r h.word h.tab) ?_)); rintro e w2 ⟨rfl, hb2⟩; clear c0 c1 c2 c3 c4 c5 c6 c7 c8 c9 c10 c11 c12; have h2 := h.next hb2; clear hb2 h; have h := h2; clear h2; obtain ⟨c0, c1, c2, c3, c4, c5, c6, c7, c8, c9, c10, c11, c12⟩ := h.box.is; simp only at c0 c1 c2 c3 c4 c5 c6 c7 c8)
  all_goals
    go_ret
    exact ⟨rfl, h.below⟩

set_option maxRecDepth 20000 in
set_option maxHeartbeats 2000000 in
theorem Tryz.only_oa3 (k op vk vn : Int) (vs name : ByteArray) (dist : Bool) (ad : Option Addr) (n cap : Nat) (hv : eq3 vk vn vs 0 0 ⟨#[]⟩ = true) (hf : ¬ name.toList = []) (w : World) (hJ : spaceTab w.heap.size w) : Calls Tryz.prog 163 #[Node.v ⟨k, op, 0, vk, vn, vs, ⟨#[]⟩, name, dist⟩ (.slice ad n cap), .string ⟨#[111, 97]⟩] w fun e w' => e = .returned (.bool false) ∧ Below w.heap.size w w' := by
  have h := On.start hJ ⟨k, op, 0, vk, vn, vs, ⟨#[]⟩, name, dist⟩ (.slice ad n cap) ⟨#[111, 97]⟩
  have hgd := guard23
  have hne := eql23
  unfold Node.v
  go_enter Tryz.func163, Tryz.ntmps163
  simp only [List.append]
  go_upto_region 1 with fail
  generalize (World.alloc (World.alloc w _) _) = W1 at h ⊢
  clear hJ
  obtain ⟨c0, c1, c2, c3, c4, c5, c6, c7, c8, c9, c10, c11, c12⟩ := h.box.is
  simp only at c0 c1 c2 c3 c4 c5 c6 c7 c8
  go_wp2_with ((first
    | (go_at_call 218; with_reducible refine Calls.mono (Tryz.has _ _ _ _ _ tab_oa_o h.word h.tab) ?_)
    | (go_at_call 218; with_reducible refine Calls.mono (Tryz.has _ _ _ _ _ tab_oa_n h.word h.tab) ?_)
    | (go_at_call 218; with_reducible refine Calls.mono (Tryz.has _ _ _ _ _ tab_oa_v h.word h.tab) ?_)
    | (go_at_call 218; with_reducible refine Calls.mono (Tryz.has _ _ _ _ _ tab_oa_c h.word h.tab) ?_)
    | (go_at_call 218; with_reducible refine Calls.mono (Tryz.has _ _ _ _ _ tab_oa_d h.word h.tab) ?_)
    | (go_at_call 218; with_reducible refine Calls.mono (Tryz.has _ _ _ _ _ tab_oa_a h.word h.tab) ?_)
    | (go_at_call 218; with_reducible refine Calls.mono (Tryz.has _ _ _ _ _ tab_oa_s h.word h.tab) ?_)
    | (go_at_call 218; with_reducible refine Calls.mono (Tryz.has _ _ _ _ _ tab_oa_g h.word h.tab) ?_)
    | (go_at_call 218; with_reducible refine Calls.mono (Tryz.has _ _ _ _ _ tab_oa_r h.word h.tab) ?_)); rintro e w2 ⟨rfl, hb2⟩; clear c0 c1 c2 c3 c4 c5 c6 c7 c8 c9 c10 c11 c12; have h2 := h.next hb2; clear hb2 h; have h := h2; clear h2; obtain ⟨c0, c1, c2, c3, c4, c5, c6, c7, c8, c9, c10, c11, c12⟩ := h.box.is; simp only at c0 c1 c2 c3 c4 c5 c6 c7 c8)
  all_goals
    go_ret
    exact ⟨rfl, h.below⟩

set_option maxRecDepth 20000 in
set_option maxHeartbeats 2000000 in
theorem Tryz.only_oa4 (k op vk vn : Int) (vs : ByteArray) (ad : Option Addr) (n cap : Nat) (hv : eq3 vk vn vs 0 0 ⟨#[]⟩ = true) (w : World) (hJ : spaceTab w.heap.size w) : Calls Tryz.prog 163 #[Node.v ⟨k, op, 0, vk, vn, vs, ⟨#[]⟩, ⟨#[]⟩, true⟩ (.slice ad n cap), .string ⟨#[111, 97]⟩] w fun e w' => e = .returned (.bool false) ∧ Below w.heap.size w w' := by
  have h := On.start hJ ⟨k, op, 0, vk, vn, vs, ⟨#[]⟩, ⟨#[]⟩, true⟩ (.slice ad n cap) ⟨#[111, 97]⟩
  have hgd := guard23
  have hne := eql23
  unfold Node.v
  go_enter Tryz.func163, Tryz.ntmps163
  simp only [List.append]
  go_upto_region 1 with fail
  generalize (World.alloc (World.alloc w _) _) = W1 at h ⊢
  clear hJ
  obtain ⟨c0, c1, c2, c3, c4, c5, c6, c7, c8, c9, c10, c11, c12⟩ := h.box.is
  simp only at c0 c1 c2 c3 c4 c5 c6 c7 c8
  go_wp2_with ((first
    | (go_at_call 218; with_reducible refine Calls.mono (Tryz.has _ _ _ _ _ tab_oa_o h.word h.tab) ?_)
    | (go_at_call 218; with_reducible refine Calls.mono (Tryz.has _ _ _ _ _ tab_oa_n h.word h.tab) ?_)
    | (go_at_call 218; with_reducible refine Calls.mono (Tryz.has _ _ _ _ _ tab_oa_v h.word h.tab) ?_)
    | (go_at_call 218; with_reducible refine Calls.mono (Tryz.has _ _ _ _ _ tab_oa_c h.word h.tab) ?_)
    | (go_at_call 218; with_reducible refine Calls.mono (Tryz.has _ _ _ _ _ tab_oa_d h.word h.tab) ?_)
    | (go_at_call 218; with_reducible refine Calls.mono (Tryz.has _ _ _ _ _ tab_oa_a h.word h.tab) ?_)
    | (go_at_call 218; with_reducible refine Calls.mono (Tryz.has _ _ _ _ _ tab_oa_s h.word h.tab) ?_)
    | (go_at_call 218; with_reducible refine Calls.mono (Tryz.has _ _ _ _ _ tab_oa_g h.word h.tab) ?_)
    | (go_at_call 218; with_reducible refine Calls.mono (Tryz.has _ _ _ _ _ tab_oa_r h.word h.tab) ?_)); rintro e w2 ⟨rfl, hb2⟩; clear c0 c1 c2 c3 c4 c5 c6 c7 c8 c9 c10 c11 c12; have h2 := h.next hb2; clear hb2 h; have h := h2; clear h2; obtain ⟨c0, c1, c2, c3, c4, c5, c6, c7, c8, c9, c10, c11, c12⟩ := h.box.is; simp only at c0 c1 c2 c3 c4 c5 c6 c7 c8)
  all_goals
    go_ret
    exact ⟨rfl, h.below⟩

set_option maxRecDepth 20000 in
set_option maxHeartbeats 2000000 in
theorem Tryz.only_oa5 (k op vk vn : Int) (vs : ByteArray) (ad : Option Addr) (n cap : Nat) (hv : eq3 vk vn vs 0 0 ⟨#[]⟩ = true) (w : World) (hJ : spaceTab w.heap.size w) : Calls Tryz.prog 163 #[Node.v ⟨k, op, 0, vk, vn, vs, ⟨#[]⟩, ⟨#[]⟩, false⟩ (.slice ad n cap), .string ⟨#[111, 97]⟩] w fun e w' => e = .returned (.bool true) ∧ Below w.heap.size w w' := by
  have h := On.start hJ ⟨k, op, 0, vk, vn, vs, ⟨#[]⟩, ⟨#[]⟩, false⟩ (.slice ad n cap) ⟨#[111, 97]⟩
  have hgd := guard23
  have hne := eql23
  unfold Node.v
  go_enter Tryz.func163, Tryz.ntmps163
  simp only [List.append]
  go_upto_region 1 with fail
  generalize (World.alloc (World.alloc w _) _) = W1 at h ⊢
  clear hJ
  obtain ⟨c0, c1, c2, c3, c4, c5, c6, c7, c8, c9, c10, c11, c12⟩ := h.box.is
  simp only at c0 c1 c2 c3 c4 c5 c6 c7 c8
  go_wp2_with ((first
    | (go_at_call 218; with_reducible refine Calls.mono (Tryz.has _ _ _ _ _ tab_oa_o h.word h.tab) ?_)
    | (go_at_call 218; with_reducible refine Calls.mono (Tryz.has _ _ _ _ _ tab_oa_n h.word h.tab) ?_)
    | (go_at_call 218; with_reducible refine Calls.mono (Tryz.has _ _ _ _ _ tab_oa_v h.word h.tab) ?_)
    | (go_at_call 218; with_reducible refine Calls.mono (Tryz.has _ _ _ _ _ tab_oa_c h.word h.tab) ?_)
    | (go_at_call 218; with_reducible refine Calls.mono (Tryz.has _ _ _ _ _ tab_oa_d h.word h.tab) ?_)
    | (go_at_call 218; with_reducible refine Calls.mono (Tryz.has _ _ _ _ _ tab_oa_a h.word h.tab) ?_)
    | (go_at_call 218; with_reducible refine Calls.mono (Tryz.has _ _ _ _ _ tab_oa_s h.word h.tab) ?_)
    | (go_at_call 218; with_reducible refine Calls.mono (Tryz.has _ _ _ _ _ tab_oa_g h.word h.tab) ?_)
    | (go_at_call 218; with_reducible refine Calls.mono (Tryz.has _ _ _ _ _ tab_oa_r h.word h.tab) ?_)); rintro e w2 ⟨rfl, hb2⟩; clear c0 c1 c2 c3 c4 c5 c6 c7 c8 c9 c10 c11 c12; have h2 := h.next hb2; clear hb2 h; have h := h2; clear h2; obtain ⟨c0, c1, c2, c3, c4, c5, c6, c7, c8, c9, c10, c11, c12⟩ := h.box.is; simp only at c0 c1 c2 c3 c4 c5 c6 c7 c8)
  all_goals
    go_ret
    exact ⟨rfl, h.below⟩

theorem Tryz.only_oa (x : Node) (ad : Option Addr) (n cap : Nat) (w : World) (hJ : spaceTab w.heap.size w) : Calls Tryz.prog 163 #[x.v (.slice ad n cap), .string ⟨#[111, 97]⟩] w fun e w' => e = .returned (.bool (onlyB true false false false true x n)) ∧ Below w.heap.size w w' := by
  obtain ⟨k, op, nn, vk, vn, vs, src, name, dist⟩ := x
  by_cases h2 : nn = 0
  case neg => skip; exact (Tryz.only_oa0 k op nn vk vn vs src name dist ad n cap  (by simpa using h2) w hJ).mono fun e w' h => ⟨h.1.trans (by unfold onlyB; simp [*]), h.2⟩
  subst h2
  by_cases h3 : eq3 vk vn vs 0 0 ⟨#[]⟩ = true
  case neg => skip; exact (Tryz.only_oa1 k op vk vn vs src name dist ad n cap  (by simpa using h3) w hJ).mono fun e w' h => ⟨h.1.trans (by unfold onlyB; simp [*]), h.2⟩
  by_cases h4 : src.toList = []
  case neg => skip; exact (Tryz.only_oa2 k op vk vn vs src name dist ad n cap h3 h4 w hJ).mono fun e w' h => ⟨h.1.trans (by unfold onlyB; simp [*]), h.2⟩
  obtain rfl := empty_of h4
  by_cases h5 : name.toList = []
  case neg => skip; exact (Tryz.only_oa3 k op vk vn vs name dist ad n cap h3 h5 w hJ).mono fun e w' h => ⟨h.1.trans (by unfold onlyB; simp [*]), h.2⟩
  obtain rfl := empty_of h5
  by_cases h6 : dist = false
  case neg => obtain rfl : dist = true := (by cases dist <;> simp_all); exact (Tryz.only_oa4 k op vk vn vs ad n cap h3  w hJ).mono fun e w' h => ⟨h.1.trans (by unfold onlyB; simp [*]), h.2⟩
  subst h6
  exact (Tryz.only_oa5 k op vk vn vs ad n cap h3 w hJ).mono fun e w' h => ⟨h.1.trans (by unfold onlyB; simp [*]), h.2⟩

end Go.Proofs

namespace Go.Proofs
open Go.RowKit Go.Ke

set_option maxRecDepth 20000 in
set_option maxHeartbeats 2000000 in
theorem Tryz.only_ona0 (k op nn vk vn : Int) (vs src name : ByteArray) (dist : Bool) (ad : Option Addr) (n cap : Nat) (hf : eq3 vk vn vs 0 0 ⟨#[]⟩ = false) (w : World) (hJ : spaceTab w.heap.size w) : Calls Tryz.prog 163 #[Node.v ⟨k, op, nn, vk, vn, vs, src, name, dist⟩ (.slice ad n cap), .string ⟨#[111, 110, 97]⟩] w fun e w' => e = .returned (.bool false) ∧ Below w.heap.size w w' := by
  have h := On.start hJ ⟨k, op, nn, vk, vn, vs, src, name, dist⟩ (.slice ad n cap) ⟨#[111, 110, 97]⟩
  have hgd := guard23
  have hne := eql23
  unfold Node.v
  go_enter Tryz.func163, Tryz.ntmps163
  simp only [List.append]
  go_upto_region 1 with fail
  generalize (World.alloc (World.alloc w _) _) = W1 at h ⊢
  clear hJ
  obtain ⟨c0, c1, c2, c3, c4, c5, c6, c7, c8, c9, c10, c11, c12⟩ := h.box.is
  simp only at c0 c1 c2 c3 c4 c5 c6 c7 c8
  go_wp2_with ((first
    | (go_at_call 218; with_reducible refine Calls.mono (Tryz.has _ _ _ _ _ tab_ona_o h.word h.tab) ?_)
    | (go_at_call 218; with_reducible refine Calls.mono (Tryz.has _ _ _ _ _ tab_ona_n h.word h.tab) ?_)
    | (go_at_call 218; with_reducible refine Calls.mono (Tryz.has _ _ _ _ _ tab_ona_v h.word h.tab) ?_)
    | (go_at_call 218; with_reducible refine Calls.mono (Tryz.has _ _ _ _ _ tab_ona_c h.word h.tab) ?_)
    | (go_at_call 218; with_reducible refine Calls.mono (Tryz.has _ _ _ _ _ tab_ona_d h.word h.tab) ?_)
    | (go_at_call 218; with_reducible refine Calls.mono (Tryz.has _ _ _ _ _ tab_ona_a h.word h.tab) ?_)
    | (go_at_call 218; with_reducible refine Calls.mono (Tryz.has _ _ _ _ _ tab_ona_s h.word h.tab) ?_)
    | (go_at_call 218; with_reducible refine Calls.mono (Tryz.has _ _ _ _ _ tab_ona_g h.word h.tab) ?_)
    | (go_at_call 218; with_reducible refine Calls.mono (Tryz.has _ _ _ _ _ tab_ona_r h.word h.tab) ?_)); rintro e w2 ⟨rfl, hb2⟩; clear c0 c1 c2 c3 c4 c5 c6 c7 c8 c9 c10 c11 c12; have h2 := h.next hb2; clear hb2 h; have h := h2; clear h2; obtain ⟨c0, c1, c2, c3, c4, c5, c6, c7, c8, c9, c10, c11, c12⟩ := h.box.is; simp only at c0 c1 c2 c3 c4 c5 c6 c7 c8)
  all_goals
    go_ret
    exact ⟨rfl, h.below⟩

set_option maxRecDepth 20000 in
set_option maxHeartbeats 2000000 in
theorem Tryz.only_ona1 (k op nn vk vn : Int) (vs src name : ByteArray) (dist : Bool) (ad : Option Addr) (n cap : Nat) (hv : eq3 vk vn vs 0 0 ⟨#[]⟩ = true) (hf : ¬ src.toList = []) (w : World) (hJ : spaceTab w.heap.size w) : Calls Tryz.prog 163 #[Node.v ⟨k, op, nn, vk, vn, vs, src, name, dist⟩ (.slice ad n cap), .string ⟨#[111, 110, 97]⟩] w fun e w' => e = .returned (.bool false) ∧ Below w.heap.size w w' := by
  have h := On.start hJ ⟨k, op, nn, vk, vn, vs, src, name, dist⟩ (.slice ad n cap) ⟨#[111, 110, 97]⟩
  have hgd := guard23
  have hne := eql23
  unfold Node.v
  go_enter Tryz.func163, Tryz.ntmps163
  simp only [List.append]
  go_upto_region 1 with fail
  generalize (World.alloc (World.alloc w _) _) = W1 at h ⊢
  clear hJ
  obtain ⟨c0, c1, c2, c3, c4, c5, c6, c7, c8, c9, c10, c11, c12⟩ := h.box.is
  simp only at c0 c1 c2 c3 c4 c5 c6 c7 c8
  go_wp2_with ((first
    | (go_at_call 218; with_reducible refine Calls.mono (Tryz.has _ _ _ _ _ tab_ona_o h.word h.tab) ?_)
    | (go_at_call 218; with_reducible refine Calls.mono (Tryz.has _ _ _ _ _ tab_ona_n h.word h.tab) ?_)
    | (go_at_call 218; with_reducible refine Calls.mono (Tryz.has _ _ _ _ _ tab_ona_v h.word h.tab) ?_)
    | (go_at_call 218; with_reducible refine Calls.mono (Tryz.has _ _ _ _ _ tab_ona_c h.word h.tab) ?_)
    | (go_at_call 218; with_reducible refine Calls.mono (Tryz.has _ _ _ _ _ tab_ona_d h.word h.tab) ?_)
    | (go_at_call 218; with_reducible refine Calls.mono (Tryz.has _ _ _ _ _ tab_ona_a h.word h.tab) ?_)
    | (go_at_call 218; with_reducible refine Calls.mono (Tryz.has _ _ _ _ _ tab_ona_s h.word h.tab) ?_)
    | (go_at_call 218; with_reducible refine Calls.mono (Tryz.has _ _ _ _ _ tab_ona_g h.word h.tab) ?_)
    | (go_at_call 218; with_reducible refine Calls.mono (Tryz.has _ _ _ _ _ tab_ona_r h.word h.tab) ?_)); rintro e w2 ⟨rfl, hb2⟩; clear c0 c1 c2 c3 c4 c5 c6 c7 c8 c9 c10 c11 c12; have h2 := h.next hb2; clear hb2 h; have h := h2; clear h2; obtain ⟨c0, c1, c2, c3, c4, c5, c6, c7, c8, c9, c10, c11, c12⟩ := h.box.is; simp only at c0 c1 c2 c3 c4 c5 c6 c7 c8)
  all_goals
    go_ret
    exact ⟨rfl, h.below⟩

set_option maxRecDepth 20000 in
set_option maxHeartbeats 2000000 in
theorem Tryz.only_ona2 (k op nn vk vn : Int) (vs name : ByteArray) (dist : Bool) (ad : Option Addr) (n cap : Nat) (hv : eq3 vk vn vs 0 0 ⟨#[]⟩ = true) (hf : ¬ name.toList = []) (w : World) (hJ : spaceTab w.heap.size w) : Calls Tryz.prog 163 #[Node.v ⟨k, op, nn, vk, vn, vs, ⟨#[]⟩, name, dist⟩ (.slice ad n cap), .string ⟨#[111, 110, 97]⟩] w fun e w' => e = .returned (.bool false) ∧ Below w.heap.size w w' := by
  have h := On.start hJ ⟨k, op, nn, vk, vn, vs, ⟨#[]⟩, name, dist⟩ (.slice ad n cap) ⟨#[111, 110, 97]⟩
  have hgd := guard23
  have hne := eql23
  unfold Node.v
  go_enter Tryz.func163, Tryz.ntmps163
  simp only [List.append]
  go_upto_region 1 with fail
  generalize (World.alloc (World.alloc w _) _) = W1 at h ⊢
  clear hJ
  obtain ⟨c0, c1, c2, c3, c4, c5, c6, c7, c8, c9, c10, c11, c12⟩ := h.box.is
  simp only at c0 c1 c2 c3 c4 c5 c6 c7 c8
  go_wp2_with ((first
    | (go_at_call 218; with_reducible refine Calls.mono (Tryz.has _ _ _ _ _ tab_ona_o h.word h.tab) ?_)
    | (go_at_call 218; with_reducible refine Calls.mono (Tryz.has _ _ _ _ _ tab_ona_n h.word h.tab) ?_)
    | (go_at_call 218; with_reducible refine Calls.mono (Tryz.has _ _ _ _ _ tab_ona_v h.word h.tab) ?_)
    | (go_at_call 218; with_reducible refine Calls.mono (Tryz.has _ _ _ _ _ tab_ona_c h.word h.tab) ?_)
    | (go_at_call 218; with_reducible refine Calls.mono (Tryz.has _ _ _ _ _ tab_ona_d h.word h.tab) ?_)
    | (go_at_call 218; with_reducible refine Calls.mono (Tryz.has _ _ _ _ _ tab_ona_a h.word h.tab) ?_)
    | (go_at_call 218; with_reducible refine Calls.mono (Tryz.has _ _ _ _ _ tab_ona_s h.word h.tab) ?_)
    | (go_at_call 218; with_reducible refine Calls.mono (Tryz.has _ _ _ _ _ tab_ona_g h.word h.tab) ?_)
    | (go_at_call 218; with_reducible refine Calls.mono (Tryz.has _ _ _ _ _ tab_ona_r h.word h.tab) ?_)); rintro e w2 ⟨rfl, hb2⟩; clear c0 c1 c2 c3 c4 c5 c6 c7 c8 c9 c10 c11 c12; have h2 := h.next hb2; clear hb2 h; have h := h2; clear h2; obtain ⟨c0, c1, c2, c3, c4, c5, c6, c7, c8, c9, c10, c11, c12⟩ := h.box.is; simp only at c0 c1 c2 c3 c4 c5 c6 c7 c8)
  all_goals
    go_ret
    exact ⟨rfl, h.below⟩

set_option maxRecDepth 20000 in
set_option maxHeartbeats 2000000 in
theorem Tryz.only_ona3 (k op nn vk vn : Int) (vs : ByteArray) (ad : Option Addr) (n cap : Nat) (hv : eq3 vk vn vs 0 0 ⟨#[]⟩ = true) (w : World) (hJ : spaceTab w.heap.size w) : Calls Tryz.prog 163 #[Node.v ⟨k, op, nn, vk, vn, vs, ⟨#[]⟩, ⟨#[]⟩, true⟩ (.slice ad n cap), .string ⟨#[111, 110, 97]⟩] w fun e w' => e = .returned (.bool false) ∧ Below w.heap.size w w' := by
  have h := On.start hJ ⟨k, op, nn, vk, vn, vs, ⟨#[]⟩, ⟨#[]⟩, true⟩ (.slice ad n cap) ⟨#[111, 110, 97]⟩
  have hgd := guard23
  have hne := eql23
  unfold Node.v
  go_enter Tryz.func163, Tryz.ntmps163
  simp only [List.append]
  go_upto_region 1 with fail
  generalize (World.alloc (World.alloc w _) _) = W1 at h ⊢
  clear hJ
  obtain ⟨c0, c1, c2, c3, c4, c5, c6, c7, c8, c9, c10, c11, c12⟩ := h.box.is
  simp only at c0 c1 c2 c3 c4 c5 c6 c7 c8
  go_wp2_with ((first
    | (go_at_call 218; with_reducible refine Calls.mono (Tryz.has _ _ _ _ _ tab_ona_o h.word h.tab) ?_)
    | (go_at_call 218; with_reducible refine Calls.mono (Tryz.has _ _ _ _ _ tab_ona_n h.word h.tab) ?_)
    | (go_at_call 218; with_reducible refine Calls.mono (Tryz.has _ _ _ _ _ tab_ona_v h.word h.tab) ?_)
    | (go_at_call 218; with_reducible refine Calls.mono (Tryz.has _ _ _ _ _ tab_ona_c h.word h.tab) ?_)
    | (go_at_call 218; with_reducible refine Calls.mono (Tryz.has _ _ _ _ _ tab_ona_d h.word h.tab) ?_)
    | (go_at_call 218; with_reducible refine Calls.mono (Tryz.has _ _ _ _ _ tab_ona_a h.word h.tab) ?_)
    | (go_at_call 218; with_reducible refine Calls.mono (Tryz.has _ _ _ _ _ tab_ona_s h.word h.tab) ?_)
    | (go_at_call 218; with_reducible refine Calls.mono (Tryz.has _ _ _ _ _ tab_ona_g h.word h.tab) ?_)
    | (go_at_call 218; with_reducible refine Calls.mono (Tryz.has _ _ _ _ _ tab_ona_r h.word h.tab) ?_)); rintro e w2 ⟨rfl, hb2⟩; clear c0 c1 c2 c3 c4 c5 c6 c7 c8 c9 c10 c11 c12; have h2 := h.next hb2; clear hb2 h; have h := h2; clear h2; obtain ⟨c0, c1, c2, c3, c4, c5, c6, c7, c8, c9, c10, c11, c12⟩ := h.box.is; simp only at c0 c1 c2 c3 c4 c5 c6 c7 c8)
  all_goals
    go_ret
    exact ⟨rfl, h.below⟩

set_option maxRecDepth 20000 in
set_option maxHeartbeats 2000000 in
theorem Tryz.only_ona4 (k op nn vk vn : Int) (vs : ByteArray) (ad : Option Addr) (n cap : Nat) (hv : eq3 vk vn vs 0 0 ⟨#[]⟩ = true) (w : World) (hJ : spaceTab w.heap.size w) : Calls Tryz.prog 163 #[Node.v ⟨k, op, nn, vk, vn, vs, ⟨#[]⟩, ⟨#[]⟩, false⟩ (.slice ad n cap), .string ⟨#[111, 110, 97]⟩] w fun e w' => e = .returned (.bool true) ∧ Below w.heap.size w w' := by
  have h := On.start hJ ⟨k, op, nn, vk, vn, vs, ⟨#[]⟩, ⟨#[]⟩, false⟩ (.slice ad n cap) ⟨#[111, 110, 97]⟩
  have hgd := guard23
  have hne := eql23
  unfold Node.v
  go_enter Tryz.func163, Tryz.ntmps163
  simp only [List.append]
  go_upto_region 1 with fail
  generalize (World.alloc (World.alloc w _) _) = W1 at h ⊢
  clear hJ
  obtain ⟨c0, c1, c2, c3, c4, c5, c6, c7, c8, c9, c10, c11, c12⟩ := h.box.is
  simp only at c0 c1 c2 c3 c4 c5 c6 c7 c8
  go_wp2_with ((first
    | (go_at_call 218; with_reducible refine Calls.mono (Tryz.has _ _ _ _ _ tab_ona_o h.word h.tab) ?_)
    | (go_at_call 218; with_reducible refine Calls.mono (Tryz.has _ _ _ _ _ tab_ona_n h.word h.tab) ?_)
    | (go_at_call 218; with_reducible refine Calls.mono (Tryz.has _ _ _ _ _ tab_ona_v h.word h.tab) ?_)
    | (go_at_call 218; with_reducible refine Calls.mono (Tryz.has _ _ _ _ _ tab_ona_c h.word h.tab) ?_)
    | (go_at_call 218; with_reducible refine Calls.mono (Tryz.has _ _ _ _ _ tab_ona_d h.word h.tab) ?_)
    | (go_at_call 218; with_reducible refine Calls.mono (Tryz.has _ _ _ _ _ tab_ona_a h.word h.tab) ?_)
    | (go_at_call 218; with_reducible refine Calls.mono (Tryz.has _ _ _ _ _ tab_ona_s h.word h.tab) ?_)
    | (go_at_call 218; with_reducible refine Calls.mono (Tryz.has _ _ _ _ _ tab_ona_g h.word h.tab) ?_)
    | (go_at_call 218; with_reducible refine Calls.mono (Tryz.has _ _ _ _ _ tab_ona_r h.word h.tab) ?_)); rintro e w2 ⟨rfl, hb2⟩; clear c0 c1 c2 c3 c4 c5 c6 c7 c8 c9 c10 c11 c12; have h2 := h.next hb2; clear hb2 h; have h := h2; clear h2; obtain ⟨c0, c1, c2, c3, c4, c5, c6, c7, c8, c9, c10, c11, c12⟩ := h.box.is; simp only at c0 c1 c2 c3 c4 c5 c6 c7 c8)
  all_goals
    go_ret
    exact ⟨rfl, h.below⟩

theorem Tryz.only_ona (x : Node) (ad : Option Addr) (n cap : Nat) (w : World) (hJ : spaceTab w.heap.size w) : Calls Tryz.prog 163 #[x.v (.slice ad n cap), .string ⟨#[111, 110, 97]⟩] w fun e w' => e = .returned (.bool (onlyB true true false false true x n)) ∧ Below w.heap.size w w' := by
  obtain ⟨k, op, nn, vk, vn, vs, src, name, dist⟩ := x
  by_cases h3 : eq3 vk vn vs 0 0 ⟨#[]⟩ = true
  case neg => skip; exact (Tryz.only_ona0 k op nn vk vn vs src name dist ad n cap  (by simpa using h3) w hJ).mono fun e w' h => ⟨h.1.trans (by unfold onlyB; simp [*]), h.2⟩
  by_cases h4 : src.toList = []
  case neg => skip; exact (Tryz.only_ona1 k op nn vk vn vs src name dist ad n cap h3 h4 w hJ).mono fun e w' h => ⟨h.1.trans (by unfold onlyB; simp [*]), h.2⟩
  obtain rfl := empty_of h4
  by_cases h5 : name.toList = []
  case neg => skip; exact (Tryz.only_ona2 k op nn vk vn vs name dist ad n cap h3 h5 w hJ).mono fun e w' h => ⟨h.1.trans (by unfold onlyB; simp [*]), h.2⟩
  obtain rfl := empty_of h5
  by_cases h6 : dist = false
  case neg => obtain rfl : dist = true := (by cases dist <;> simp_all); exact (Tryz.only_ona3 k op nn vk vn vs ad n cap h3  w hJ).mono fun e w' h => ⟨h.1.trans (by unfold onlyB; simp [*]), h.2⟩
  subst h6
  exact (Tryz.only_ona4 k op nn vk vn vs ad n cap h3 w hJ).mono fun e w' h => ⟨h.1.trans (by unfold onlyB; simp [*]), h.2⟩

end Go.Proofs
