/- Of the document's package: only, with its words v, n and c. The condition: the library's table of white space. -/
import Derived.Test.YtkpligcifakmjaaGreatDoorOnly
namespace Go.Proofs
open Go.RowKit Go.Ke

set_option maxRecDepth 20000 in
set_option maxHeartbeats 2000000 in
theorem Tryz.only_v0 (k op nn vk vn : Int) (vs src name : ByteArray) (dist : Bool) (ad : Option Addr) (n cap : Nat) (hf : (op == 0) = false) (w : World) (hJ : spaceTab w.heap.size w) : Calls Tryz.prog 163 #[Node.v ⟨k, op, nn, vk, vn, vs, src, name, dist⟩ (.slice ad n cap), .string ⟨#[118]⟩] w fun e w' => e = .returned (.bool false) ∧ Below w.heap.size w w' := by
  have h := On.start hJ ⟨k, op, nn, vk, vn, vs, src, name, dist⟩ (.slice ad n cap) ⟨#[118]⟩
  unfold Node.v
  go_enter Tryz.func163, Tryz.ntmps163
  simp only [List.append]
  go_upto_region 1 with fail
  generalize (World.alloc (World.alloc w _) _) = W1 at h ⊢
  clear hJ
  obtain ⟨c0, c1, c2, c3, c4, c5, c6, c7, c8, c9, c10, c11, c12⟩ := h.box.is
  simp only at c0 c1 c2 c3 c4 c5 c6 c7 c8
  go_wp2_with ((first
    | (go_at_call 218; with_reducible refine Calls.mono (Tryz.has _ _ _ _ _ tab_v_o h.word h.tab) ?_)
    | (go_at_call 218; with_reducible refine Calls.mono (Tryz.has _ _ _ _ _ tab_v_n h.word h.tab) ?_)
    | (go_at_call 218; with_reducible refine Calls.mono (Tryz.has _ _ _ _ _ tab_v_v h.word h.tab) ?_)
    | (go_at_call 218; with_reducible refine Calls.mono (Tryz.has _ _ _ _ _ tab_v_c h.word h.tab) ?_)
    | (go_at_call 218; with_reducible refine Calls.mono (Tryz.has _ _ _ _ _ tab_v_d h.word h.tab) ?_)
    | (go_at_call 218; with_reducible refine Calls.mono (Tryz.has _ _ _ _ _ tab_v_a h.word h.tab) ?_)
    | (go_at_call 218; with_reducible refine Calls.mono (Tryz.has _ _ _ _ _ tab_v_s h.word h.tab) ?_)
    | (go_at_call 218; with_reducible refine Calls.mono (Tryz.has _ _ _ _ _ tab_v_g h.word h.tab) ?_)
    | (go_at_call 218; with_reducible refine Calls.mono (Tryz.has _ _ _ _ _ tab_v_r h.word h.tab) ?_)); rintro e w2 ⟨rfl, hb2⟩; clear c0 c1 c2 c3 c4 c5 c6 c7 c8 c9 c10 c11 c12; have h2 := h.next hb2; clear hb2 h; have h := h2; clear h2; obtain ⟨c0, c1, c2, c3, c4, c5, c6, c7, c8, c9, c10, c11, c12⟩ := h.box.is; simp only at c0 c1 c2 c3 c4 c5 c6 c7 c8)
  all_goals
    go_ret
    exact ⟨rfl, h.below⟩

set_option maxRecDepth 20000 in
set_option maxHeartbeats 2000000 in
theorem Tryz.only_v1 (k nn vk vn : Int) (vs src name : ByteArray) (dist : Bool) (ad : Option Addr) (n cap : Nat) (hf : (nn == 0) = false) (w : World) (hJ : spaceTab w.heap.size w) : Calls Tryz.prog 163 #[Node.v ⟨k, 0, nn, vk, vn, vs, src, name, dist⟩ (.slice ad n cap), .string ⟨#[118]⟩] w fun e w' => e = .returned (.bool false) ∧ Below w.heap.size w w' := by
  have h := On.start hJ ⟨k, 0, nn, vk, vn, vs, src, name, dist⟩ (.slice ad n cap) ⟨#[118]⟩
  unfold Node.v
  go_enter Tryz.func163, Tryz.ntmps163
  simp only [List.append]
  go_upto_region 1 with fail
  generalize (World.alloc (World.alloc w _) _) = W1 at h ⊢
  clear hJ
  obtain ⟨c0, c1, c2, c3, c4, c5, c6, c7, c8, c9, c10, c11, c12⟩ := h.box.is
  simp only at c0 c1 c2 c3 c4 c5 c6 c7 c8
  go_wp2_with ((first
    | (go_at_call 218; with_reducible refine Calls.mono (Tryz.has _ _ _ _ _ tab_v_o h.word h.tab) ?_)
    | (go_at_call 218; with_reducible refine Calls.mono (Tryz.has _ _ _ _ _ tab_v_n h.word h.tab) ?_)
    | (go_at_call 218; with_reducible refine Calls.mono (Tryz.has _ _ _ _ _ tab_v_v h.word h.tab) ?_)
    | (go_at_call 218; with_reducible refine Calls.mono (Tryz.has _ _ _ _ _ tab_v_c h.word h.tab) ?_)
    | (go_at_call 218; with_reducible refine Calls.mono (Tryz.has _ _ _ _ _ tab_v_d h.word h.tab) ?_)
    | (go_at_call 218; with_reducible refine Calls.mono (Tryz.has _ _ _ _ _ tab_v_a h.word h.tab) ?_)
    | (go_at_call 218; with_reducible refine Calls.mono (Tryz.has _ _ _ _ _ tab_v_s h.word h.tab) ?_)
    | (go_at_call 218; with_reducible refine Calls.mono (Tryz.has _ _ _ _ _ tab_v_g h.word h.tab) ?_)
    | (go_at_call 218; with_reducible refine Calls.mono (Tryz.has _ _ _ _ _ tab_v_r h.word h.tab) ?_)); rintro e w2 ⟨rfl, hb2⟩; clear c0 c1 c2 c3 c4 c5 c6 c7 c8 c9 c10 c11 c12; have h2 := h.next hb2; clear hb2 h; have h := h2; clear h2; obtain ⟨c0, c1, c2, c3, c4, c5, c6, c7, c8, c9, c10, c11, c12⟩ := h.box.is; simp only at c0 c1 c2 c3 c4 c5 c6 c7 c8)
  all_goals
    go_ret
    exact ⟨rfl, h.below⟩

set_option maxRecDepth 20000 in
set_option maxHeartbeats 2000000 in
theorem Tryz.only_v2 (k vk vn : Int) (vs src name : ByteArray) (dist : Bool) (ad : Option Addr) (n cap : Nat) (hf : ¬ src.toList = []) (w : World) (hJ : spaceTab w.heap.size w) : Calls Tryz.prog 163 #[Node.v ⟨k, 0, 0, vk, vn, vs, src, name, dist⟩ (.slice ad n cap), .string ⟨#[118]⟩] w fun e w' => e = .returned (.bool false) ∧ Below w.heap.size w w' := by
  have h := On.start hJ ⟨k, 0, 0, vk, vn, vs, src, name, dist⟩ (.slice ad n cap) ⟨#[118]⟩
  unfold Node.v
  go_enter Tryz.func163, Tryz.ntmps163
  simp only [List.append]
  go_upto_region 1 with fail
  generalize (World.alloc (World.alloc w _) _) = W1 at h ⊢
  clear hJ
  obtain ⟨c0, c1, c2, c3, c4, c5, c6, c7, c8, c9, c10, c11, c12⟩ := h.box.is
  simp only at c0 c1 c2 c3 c4 c5 c6 c7 c8
  go_wp2_with ((first
    | (go_at_call 218; with_reducible refine Calls.mono (Tryz.has _ _ _ _ _ tab_v_o h.word h.tab) ?_)
    | (go_at_call 218; with_reducible refine Calls.mono (Tryz.has _ _ _ _ _ tab_v_n h.word h.tab) ?_)
    | (go_at_call 218; with_reducible refine Calls.mono (Tryz.has _ _ _ _ _ tab_v_v h.word h.tab) ?_)
    | (go_at_call 218; with_reducible refine Calls.mono (Tryz.has _ _ _ _ _ tab_v_c h.word h.tab) ?_)
    | (go_at_call 218; with_reducible refine Calls.mono (Tryz.has _ _ _ _ _ tab_v_d h.word h.tab) ?_)
    | (go_at_call 218; with_reducible refine Calls.mono (Tryz.has _ _ _ _ _ tab_v_a h.word h.tab) ?_)
    | (go_at_call 218; with_reducible refine Calls.mono (Tryz.has _ _ _ _ _ tab_v_s h.word h.tab) ?_)
    | (go_at_call 218; with_reducible refine Calls.mono (Tryz.has _ _ _ _ _ tab_v_g h.word h.tab) ?_)
    | (go_at_call 218; with_reducible refine Calls.mono (Tryz.has _ _ _ _ _ tab_v_r h.word h.tab) ?_)); rintro e w2 ⟨rfl, hb2⟩; clear c0 c1 c2 c3 c4 c5 c6 c7 c8 c9 c10 c11 c12; have h2 := h.next hb2; clear hb2 h; have h := h2; clear h2; obtain ⟨c0, c1, c2, c3, c4, c5, c6, c7, c8, c9, c10, c11, c12⟩ := h.box.is; simp only at c0 c1 c2 c3 c4 c5 c6 c7 c8)
  all_goals
    go_ret
    exact ⟨rfl, h.below⟩

set_option maxRecDepth 20000 in
set_option maxHeartbeats 2000000 in
theorem Tryz.only_v3 (k vk vn : Int) (vs name : ByteArray) (dist : Bool) (ad : Option Addr) (n cap : Nat) (hf : ¬ name.toList = []) (w : World) (hJ : spaceTab w.heap.size w) : Calls Tryz.prog 163 #[Node.v ⟨k, 0, 0, vk, vn, vs, ⟨#[]⟩, name, dist⟩ (.slice ad n cap), .string ⟨#[118]⟩] w fun e w' => e = .returned (.bool false) ∧ Below w.heap.size w w' := by
  have h := On.start hJ ⟨k, 0, 0, vk, vn, vs, ⟨#[]⟩, name, dist⟩ (.slice ad n cap) ⟨#[118]⟩
  unfold Node.v
  go_enter Tryz.func163, Tryz.ntmps163
  simp only [List.append]
  go_upto_region 1 with fail
  generalize (World.alloc (World.alloc w _) _) = W1 at h ⊢
  clear hJ
  obtain ⟨c0, c1, c2, c3, c4, c5, c6, c7, c8, c9, c10, c11, c12⟩ := h.box.is
  simp only at c0 c1 c2 c3 c4 c5 c6 c7 c8
  go_wp2_with ((first
    | (go_at_call 218; with_reducible refine Calls.mono (Tryz.has _ _ _ _ _ tab_v_o h.word h.tab) ?_)
    | (go_at_call 218; with_reducible refine Calls.mono (Tryz.has _ _ _ _ _ tab_v_n h.word h.tab) ?_)
    | (go_at_call 218; with_reducible refine Calls.mono (Tryz.has _ _ _ _ _ tab_v_v h.word h.tab) ?_)
    | (go_at_call 218; with_reducible refine Calls.mono (Tryz.has _ _ _ _ _ tab_v_c h.word h.tab) ?_)
    | (go_at_call 218; with_reducible refine Calls.mono (Tryz.has _ _ _ _ _ tab_v_d h.word h.tab) ?_)
    | (go_at_call 218; with_reducible refine Calls.mono (Tryz.has _ _ _ _ _ tab_v_a h.word h.tab) ?_)
    | (go_at_call 218; with_reducible refine Calls.mono (Tryz.has _ _ _ _ _ tab_v_s h.word h.tab) ?_)
    | (go_at_call 218; with_reducible refine Calls.mono (Tryz.has _ _ _ _ _ tab_v_g h.word h.tab) ?_)
    | (go_at_call 218; with_reducible refine Calls.mono (Tryz.has _ _ _ _ _ tab_v_r h.word h.tab) ?_)); rintro e w2 ⟨rfl, hb2⟩; clear c0 c1 c2 c3 c4 c5 c6 c7 c8 c9 c10 c11 c12; have h2 := h.next hb2; clear hb2 h; have h := h2; clear h2; obtain ⟨c0, c1, c2, c3, c4, c5, c6, c7, c8, c9, c10, c11, c12⟩ := h.box.is; simp only at c0 c1 c2 c3 c4 c5 c6 c7 c8)
  all_goals
    go_ret
    exact ⟨rfl, h.below⟩

set_option maxRecDepth 20000 in
set_option maxHeartbeats 2000000 in
theorem Tryz.only_v4 (k vk vn : Int) (vs : ByteArray) (ad : Option Addr) (n cap : Nat)  (w : World) (hJ : spaceTab w.heap.size w) : Calls Tryz.prog 163 #[Node.v ⟨k, 0, 0, vk, vn, vs, ⟨#[]⟩, ⟨#[]⟩, true⟩ (.slice ad n cap), .string ⟨#[118]⟩] w fun e w' => e = .returned (.bool false) ∧ Below w.heap.size w w' := by
  have h := On.start hJ ⟨k, 0, 0, vk, vn, vs, ⟨#[]⟩, ⟨#[]⟩, true⟩ (.slice ad n cap) ⟨#[118]⟩
  unfold Node.v
  go_enter Tryz.func163, Tryz.ntmps163
  simp only [List.append]
  go_upto_region 1 with fail
  generalize (World.alloc (World.alloc w _) _) = W1 at h ⊢
  clear hJ
  obtain ⟨c0, c1, c2, c3, c4, c5, c6, c7, c8, c9, c10, c11, c12⟩ := h.box.is
  simp only at c0 c1 c2 c3 c4 c5 c6 c7 c8
  go_wp2_with ((first
    | (go_at_call 218; with_reducible refine Calls.mono (Tryz.has _ _ _ _ _ tab_v_o h.word h.tab) ?_)
    | (go_at_call 218; with_reducible refine Calls.mono (Tryz.has _ _ _ _ _ tab_v_n h.word h.tab) ?_)
    | (go_at_call 218; with_reducible refine Calls.mono (Tryz.has _ _ _ _ _ tab_v_v h.word h.tab) ?_)
    | (go_at_call 218; with_reducible refine Calls.mono (Tryz.has _ _ _ _ _ tab_v_c h.word h.tab) ?_)
    | (go_at_call 218; with_reducible refine Calls.mono (Tryz.has _ _ _ _ _ tab_v_d h.word h.tab) ?_)
    | (go_at_call 218; with_reducible refine Calls.mono (Tryz.has _ _ _ _ _ tab_v_a h.word h.tab) ?_)
    | (go_at_call 218; with_reducible refine Calls.mono (Tryz.has _ _ _ _ _ tab_v_s h.word h.tab) ?_)
    | (go_at_call 218; with_reducible refine Calls.mono (Tryz.has _ _ _ _ _ tab_v_g h.word h.tab) ?_)
    | (go_at_call 218; with_reducible refine Calls.mono (Tryz.has _ _ _ _ _ tab_v_r h.word h.tab) ?_)); rintro e w2 ⟨rfl, hb2⟩; clear c0 c1 c2 c3 c4 c5 c6 c7 c8 c9 c10 c11 c12; have h2 := h.next hb2; clear hb2 h; have h := h2; clear h2; obtain ⟨c0, c1, c2, c3, c4, c5, c6, c7, c8, c9, c10, c11, c12⟩ := h.box.is; simp only at c0 c1 c2 c3 c4 c5 c6 c7 c8)
  all_goals
    go_ret
    exact ⟨rfl, h.below⟩

set_option maxRecDepth 20000 in
set_option maxHeartbeats 2000000 in
theorem Tryz.only_v5 (k vk vn : Int) (vs : ByteArray) (ad : Option Addr) (n cap : Nat) (hf : ¬ (n : Int) = 0) (w : World) (hJ : spaceTab w.heap.size w) : Calls Tryz.prog 163 #[Node.v ⟨k, 0, 0, vk, vn, vs, ⟨#[]⟩, ⟨#[]⟩, false⟩ (.slice ad n cap), .string ⟨#[118]⟩] w fun e w' => e = .returned (.bool false) ∧ Below w.heap.size w w' := by
  have h := On.start hJ ⟨k, 0, 0, vk, vn, vs, ⟨#[]⟩, ⟨#[]⟩, false⟩ (.slice ad n cap) ⟨#[118]⟩
  unfold Node.v
  go_enter Tryz.func163, Tryz.ntmps163
  simp only [List.append]
  go_upto_region 1 with fail
  generalize (World.alloc (World.alloc w _) _) = W1 at h ⊢
  clear hJ
  obtain ⟨c0, c1, c2, c3, c4, c5, c6, c7, c8, c9, c10, c11, c12⟩ := h.box.is
  simp only at c0 c1 c2 c3 c4 c5 c6 c7 c8
  go_wp2_with ((first
    | (go_at_call 218; with_reducible refine Calls.mono (Tryz.has _ _ _ _ _ tab_v_o h.word h.tab) ?_)
    | (go_at_call 218; with_reducible refine Calls.mono (Tryz.has _ _ _ _ _ tab_v_n h.word h.tab) ?_)
    | (go_at_call 218; with_reducible refine Calls.mono (Tryz.has _ _ _ _ _ tab_v_v h.word h.tab) ?_)
    | (go_at_call 218; with_reducible refine Calls.mono (Tryz.has _ _ _ _ _ tab_v_c h.word h.tab) ?_)
    | (go_at_call 218; with_reducible refine Calls.mono (Tryz.has _ _ _ _ _ tab_v_d h.word h.tab) ?_)
    | (go_at_call 218; with_reducible refine Calls.mono (Tryz.has _ _ _ _ _ tab_v_a h.word h.tab) ?_)
    | (go_at_call 218; with_reducible refine Calls.mono (Tryz.has _ _ _ _ _ tab_v_s h.word h.tab) ?_)
    | (go_at_call 218; with_reducible refine Calls.mono (Tryz.has _ _ _ _ _ tab_v_g h.word h.tab) ?_)
    | (go_at_call 218; with_reducible refine Calls.mono (Tryz.has _ _ _ _ _ tab_v_r h.word h.tab) ?_)); rintro e w2 ⟨rfl, hb2⟩; clear c0 c1 c2 c3 c4 c5 c6 c7 c8 c9 c10 c11 c12; have h2 := h.next hb2; clear hb2 h; have h := h2; clear h2; obtain ⟨c0, c1, c2, c3, c4, c5, c6, c7, c8, c9, c10, c11, c12⟩ := h.box.is; simp only at c0 c1 c2 c3 c4 c5 c6 c7 c8)
  all_goals
    go_ret
    exact ⟨rfl, h.below⟩

set_option maxRecDepth 20000 in
set_option maxHeartbeats 2000000 in
theorem Tryz.only_v6 (k vk vn : Int) (vs : ByteArray) (ad : Option Addr) (cap : Nat)  (w : World) (hJ : spaceTab w.heap.size w) : Calls Tryz.prog 163 #[Node.v ⟨k, 0, 0, vk, vn, vs, ⟨#[]⟩, ⟨#[]⟩, false⟩ (.slice ad 0 cap), .string ⟨#[118]⟩] w fun e w' => e = .returned (.bool true) ∧ Below w.heap.size w w' := by
  have h := On.start hJ ⟨k, 0, 0, vk, vn, vs, ⟨#[]⟩, ⟨#[]⟩, false⟩ (.slice ad 0 cap) ⟨#[118]⟩
  unfold Node.v
  go_enter Tryz.func163, Tryz.ntmps163
  simp only [List.append]
  go_upto_region 1 with fail
  generalize (World.alloc (World.alloc w _) _) = W1 at h ⊢
  clear hJ
  obtain ⟨c0, c1, c2, c3, c4, c5, c6, c7, c8, c9, c10, c11, c12⟩ := h.box.is
  simp only at c0 c1 c2 c3 c4 c5 c6 c7 c8
  go_wp2_with ((first
    | (go_at_call 218; with_reducible refine Calls.mono (Tryz.has _ _ _ _ _ tab_v_o h.word h.tab) ?_)
    | (go_at_call 218; with_reducible refine Calls.mono (Tryz.has _ _ _ _ _ tab_v_n h.word h.tab) ?_)
    | (go_at_call 218; with_reducible refine Calls.mono (Tryz.has _ _ _ _ _ tab_v_v h.word h.tab) ?_)
    | (go_at_call 218; with_reducible refine Calls.mono (Tryz.has _ _ _ _ _ tab_v_c h.word h.tab) ?_)
    | (go_at_call 218; with_reducible refine Calls.mono (Tryz.has _ _ _ _ _ tab_v_d h.word h.tab) ?_)
    | (go_at_call 218; with_reducible refine Calls.mono (Tryz.has _ _ _ _ _ tab_v_a h.word h.tab) ?_)
    | (go_at_call 218; with_reducible refine Calls.mono (Tryz.has _ _ _ _ _ tab_v_s h.word h.tab) ?_)
    | (go_at_call 218; with_reducible refine Calls.mono (Tryz.has _ _ _ _ _ tab_v_g h.word h.tab) ?_)
    | (go_at_call 218; with_reducible refine Calls.mono (Tryz.has _ _ _ _ _ tab_v_r h.word h.tab) ?_)); rintro e w2 ⟨rfl, hb2⟩; clear c0 c1 c2 c3 c4 c5 c6 c7 c8 c9 c10 c11 c12; have h2 := h.next hb2; clear hb2 h; have h := h2; clear h2; obtain ⟨c0, c1, c2, c3, c4, c5, c6, c7, c8, c9, c10, c11, c12⟩ := h.box.is; simp only at c0 c1 c2 c3 c4 c5 c6 c7 c8)
  all_goals
    go_ret
    exact ⟨rfl, h.below⟩

theorem Tryz.only_v (x : Node) (ad : Option Addr) (n cap : Nat) (w : World) (hJ : spaceTab w.heap.size w) : Calls Tryz.prog 163 #[x.v (.slice ad n cap), .string ⟨#[118]⟩] w fun e w' => e = .returned (.bool (onlyB false false true false false x n)) ∧ Below w.heap.size w w' := by
  obtain ⟨k, op, nn, vk, vn, vs, src, name, dist⟩ := x
  by_cases h1 : op = 0
  case neg => skip; exact (Tryz.only_v0 k op nn vk vn vs src name dist ad n cap  (by simpa using h1) w hJ).mono fun e w' h => ⟨h.1.trans (by unfold onlyB; simp [*]), h.2⟩
  subst h1
  by_cases h2 : nn = 0
  case neg => skip; exact (Tryz.only_v1 k nn vk vn vs src name dist ad n cap  (by simpa using h2) w hJ).mono fun e w' h => ⟨h.1.trans (by unfold onlyB; simp [*]), h.2⟩
  subst h2
  by_cases h4 : src.toList = []
  case neg => skip; exact (Tryz.only_v2 k vk vn vs src name dist ad n cap  h4 w hJ).mono fun e w' h => ⟨h.1.trans (by unfold onlyB; simp [*]), h.2⟩
  obtain rfl := empty_of h4
  by_cases h5 : name.toList = []
  case neg => skip; exact (Tryz.only_v3 k vk vn vs name dist ad n cap  h5 w hJ).mono fun e w' h => ⟨h.1.trans (by unfold onlyB; simp [*]), h.2⟩
  obtain rfl := empty_of h5
  by_cases h6 : dist = false
  case neg => obtain rfl : dist = true := (by cases dist <;> simp_all); exact (Tryz.only_v4 k vk vn vs ad n cap   w hJ).mono fun e w' h => ⟨h.1.trans (by unfold onlyB; simp [*]), h.2⟩
  subst h6
  by_cases h7 : n = 0
  case neg => skip; exact (Tryz.only_v5 k vk vn vs ad n cap  (by omega) w hJ).mono fun e w' h => ⟨h.1.trans (by unfold onlyB; simp [*]), h.2⟩
  subst h7
  exact (Tryz.only_v6 k vk vn vs ad cap  w hJ).mono fun e w' h => ⟨h.1.trans (by unfold onlyB; simp [*]), h.2⟩

end Go.Proofs

namespace Go.Proofs
open Go.RowKit Go.Ke

set_option maxRecDepth 20000 in
set_option maxHeartbeats 2000000 in
theorem Tryz.only_n0 (k op nn vk vn : Int) (vs src name : ByteArray) (dist : Bool) (ad : Option Addr) (n cap : Nat) (hf : (op == 0) = false) (w : World) (hJ : spaceTab w.heap.size w) : Calls Tryz.prog 163 #[Node.v ⟨k, op, nn, vk, vn, vs, src, name, dist⟩ (.slice ad n cap), .string ⟨#[110]⟩] w fun e w' => e = .returned (.bool false) ∧ Below w.heap.size w w' := by
  have h := On.start hJ ⟨k, op, nn, vk, vn, vs, src, name, dist⟩ (.slice ad n cap) ⟨#[110]⟩
  have hgd := guard23
  have hne := eql23
  unfold Node.v
  go_enter Tryz.func163, Tryz.ntmps163
  simp only [List.append]
  go_upto_region 1 with fail
  generalize (World.alloc (World.alloc w _) _) = W1 at h ⊢
  clear hJ
  obtain ⟨c0, c1, c2, c3, c4, c5, c6, c7, c8, c9, c10, c11, c12⟩ := h.box.is
  simp only at c0 c1 c2 c3 c4 c5 c6 c7 c8
  go_wp2_with ((first
    | (go_at_call 218; with_reducible refine Calls.mono (Tryz.has _ _ _ _ _ tab_n_o h.word h.tab) ?_)
    | (go_at_call 218; with_reducible refine Calls.mono (Tryz.has _ _ _ _ _ tab_n_n h.word h.tab) ?_)
    | (go_at_call 218; with_reducible refine Calls.mono (Tryz.has _ _ _ _ _ tab_n_v h.word h.tab) ?_)
    | (go_at_call 218; with_reducible refine Calls.mono (Tryz.has _ _ _ _ _ tab_n_c h.word h.tab) ?_)
    | (go_at_call 218; with_reducible refine Calls.mono (Tryz.has _ _ _ _ _ tab_n_d h.word h.tab) ?_)
    | (go_at_call 218; with_reducible refine Calls.mono (Tryz.has _ _ _ _ _ tab_n_a h.word h.tab) ?_)
    | (go_at_call 218; with_reducible refine Calls.mono (Tryz.has _ _ _ _ _ tab_n_s h.word h.tab) ?_)
    | (go_at_call 218; with_reducible refine Calls.mono (Tryz.has _ _ _ _ _ tab_n_g h.word h.tab) ?_)
    | (go_at_call 218; with_reducible refine Calls.mono (Tryz.has _ _ _ _ _ tab_n_r h.word h.tab) ?_)); rintro e w2 ⟨rfl, hb2⟩; clear c0 c1 c2 c3 c4 c5 c6 c7 c8 c9 c10 c11 c12; have h2 := h.next hb2; clear hb2 h; have h := h2; clear h2; obtain ⟨c0, c1, c2, c3, c4, c5, c6, c7, c8, c9, c10, c11, c12⟩ := h.box.is; simp only at c0 c1 c2 c3 c4 c5 c6 c7 c8)
  all_goals
    go_ret
    exact ⟨rfl, h.below⟩

set_option maxRecDepth 20000 in
set_option maxHeartbeats 2000000 in
theorem Tryz.only_n1 (k nn vk vn : Int) (vs src name : ByteArray) (dist : Bool) (ad : Option Addr) (n cap : Nat) (hf : eq3 vk vn vs 0 0 ⟨#[]⟩ = false) (w : World) (hJ : spaceTab w.heap.size w) : Calls Tryz.prog 163 #[Node.v ⟨k, 0, nn, vk, vn, vs, src, name, dist⟩ (.slice ad n cap), .string ⟨#[110]⟩] w fun e w' => e = .returned (.bool false) ∧ Below w.heap.size w w' := by
  have h := On.start hJ ⟨k, 0, nn, vk, vn, vs, src, name, dist⟩ (.slice ad n cap) ⟨#[110]⟩
  have hgd := guard23
  have hne := eql23
  unfold Node.v
  go_enter Tryz.func163, Tryz.ntmps163
  simp only [List.append]
  go_upto_region 1 with fail
  generalize (World.alloc (World.alloc w _) _) = W1 at h ⊢
  clear hJ
  obtain ⟨c0, c1, c2, c3, c4, c5, c6, c7, c8, c9, c10, c11, c12⟩ := h.box.is
  simp only at c0 c1 c2 c3 c4 c5 c6 c7 c8
  go_wp2_with ((first
    | (go_at_call 218; with_reducible refine Calls.mono (Tryz.has _ _ _ _ _ tab_n_o h.word h.tab) ?_)
    | (go_at_call 218; with_reducible refine Calls.mono (Tryz.has _ _ _ _ _ tab_n_n h.word h.tab) ?_)
    | (go_at_call 218; with_reducible refine Calls.mono (Tryz.has _ _ _ _ _ tab_n_v h.word h.tab) ?_)
    | (go_at_call 218; with_reducible refine Calls.mono (Tryz.has _ _ _ _ _ tab_n_c h.word h.tab) ?_)
    | (go_at_call 218; with_reducible refine Calls.mono (Tryz.has _ _ _ _ _ tab_n_d h.word h.tab) ?_)
    | (go_at_call 218; with_reducible refine Calls.mono (Tryz.has _ _ _ _ _ tab_n_a h.word h.tab) ?_)
    | (go_at_call 218; with_reducible refine Calls.mono (Tryz.has _ _ _ _ _ tab_n_s h.word h.tab) ?_)
    | (go_at_call 218; with_reducible refine Calls.mono (Tryz.has _ _ _ _ _ tab_n_g h.word h.tab) ?_)
    | (go_at_call 218; with_reducible refine Calls.mono (Tryz.has _ _ _ _ _ tab_n_r h.word h.tab) ?_)); rintro e w2 ⟨rfl, hb2⟩; clear c0 c1 c2 c3 c4 c5 c6 c7 c8 c9 c10 c11 c12; have h2 := h.next hb2; clear hb2 h; have h := h2; clear h2; obtain ⟨c0, c1, c2, c3, c4, c5, c6, c7, c8, c9, c10, c11, c12⟩ := h.box.is; simp only at c0 c1 c2 c3 c4 c5 c6 c7 c8)
  all_goals
    go_ret
    exact ⟨rfl, h.below⟩

set_option maxRecDepth 20000 in
set_option maxHeartbeats 2000000 in
theorem Tryz.only_n2 (k nn vk vn : Int) (vs src name : ByteArray) (dist : Bool) (ad : Option Addr) (n cap : Nat) (hv : eq3 vk vn vs 0 0 ⟨#[]⟩ = true) (hf : ¬ src.toList = []) (w : World) (hJ : spaceTab w.heap.size w) : Calls Tryz.prog 163 #[Node.v ⟨k, 0, nn, vk, vn, vs, src, name, dist⟩ (.slice ad n cap), .string ⟨#[110]⟩] w fun e w' => e = .returned (.bool false) ∧ Below w.heap.size w w' := by
  have h := On.start hJ ⟨k, 0, nn, vk, vn, vs, src, name, dist⟩ (.slice ad n cap) ⟨#[110]⟩
  have hgd := guard23
  have hne := eql23
  unfold Node.v
  go_enter Tryz.func163, Tryz.ntmps163
  simp only [List.append]
  go_upto_region 1 with fail
  generalize (World.alloc (World.alloc w _) _) = W1 at h ⊢
  clear hJ
  obtain ⟨c0, c1, c2, c3, c4, c5, c6, c7, c8, c9, c10, c11, c12⟩ := h.box.is
  simp only at c0 c1 c2 c3 c4 c5 c6 c7 c8
  go_wp2_with ((first
    | (go_at_call 218; with_reducible refine Calls.mono (Tryz.has _ _ _ _ _ tab_n_o h.word h.tab) ?_)
    | (go_at_call 218; with_reducible refine Calls.mono (Tryz.has _ _ _ _ _ tab_n_n h.word h.tab) ?_)
    | (go_at_call 218; with_reducible refine Calls.mono (Tryz.has _ _ _ _ _ tab_n_v h.word h.tab) ?_)
    | (go_at_call 218; with_reducible refine Calls.mono (Tryz.has _ _ _ _ _ tab_n_c h.word h.tab) ?_)
    | (go_at_call 218; with_reducible refine Calls.mono (Tryz.has _ _ _ _ _ tab_n_d h.word h.tab) ?_)
    | (go_at_call 218; with_reducible refine Calls.mono (Tryz.has _ _ _ _ _ tab_n_a h.word h.tab) ?_)
    | (go_at_call 218; with_reducible refine Calls.mono (Tryz.has _ _ _ _ _ tab_n_s h.word h.tab) ?_)
    | (go_at_call 218; with_reducible refine Calls.mono (Tryz.has _ _ _ _ _ tab_n_g h.word h.tab) ?_)
    | (go_at_call 218; with_reducible refine Calls.mono (Tryz.has _ _ _ _ _ tab_n_r h.word h.tab) ?_)); rintro e w2 ⟨rfl, hb2⟩; clear c0 c1 c2 c3 c4 c5 c6 c7 c8 c9 c10 c11 c12; have h2 := h.next hb2; clear hb2 h; have h := h2; clear h2; obtain ⟨c0, c1, c2, c3, c4, c5, c6, c7, c8, c9, c10, c11, c12⟩ := h.box.is; simp only at c0 c1 c2 c3 c4 c5 c6 c7 c8)
  all_goals
    go_ret
    exact ⟨rfl, h.below⟩

set_option maxRecDepth 20000 in
set_option maxHeartbeats 2000000 in
theorem Tryz.only_n3 (k nn vk vn : Int) (vs name : ByteArray) (dist : Bool) (ad : Option Addr) (n cap : Nat) (hv : eq3 vk vn vs 0 0 ⟨#[]⟩ = true) (hf : ¬ name.toList = []) (w : World) (hJ : spaceTab w.heap.size w) : Calls Tryz.prog 163 #[Node.v ⟨k, 0, nn, vk, vn, vs, ⟨#[]⟩, name, dist⟩ (.slice ad n cap), .string ⟨#[110]⟩] w fun e w' => e = .returned (.bool false) ∧ Below w.heap.size w w' := by
  have h := On.start hJ ⟨k, 0, nn, vk, vn, vs, ⟨#[]⟩, name, dist⟩ (.slice ad n cap) ⟨#[110]⟩
  have hgd := guard23
  have hne := eql23
  unfold Node.v
  go_enter Tryz.func163, Tryz.ntmps163
  simp only [List.append]
  go_upto_region 1 with fail
  generalize (World.alloc (World.alloc w _) _) = W1 at h ⊢
  clear hJ
  obtain ⟨c0, c1, c2, c3, c4, c5, c6, c7, c8, c9, c10, c11, c12⟩ := h.box.is
  simp only at c0 c1 c2 c3 c4 c5 c6 c7 c8
  go_wp2_with ((first
    | (go_at_call 218; with_reducible refine Calls.mono (Tryz.has _ _ _ _ _ tab_n_o h.word h.tab) ?_)
    | (go_at_call 218; with_reducible refine Calls.mono (Tryz.has _ _ _ _ _ tab_n_n h.word h.tab) ?_)
    | (go_at_call 218; with_reducible refine Calls.mono (Tryz.has _ _ _ _ _ tab_n_v h.word h.tab) ?_)
    | (go_at_call 218; with_reducible refine Calls.mono (Tryz.has _ _ _ _ _ tab_n_c h.word h.tab) ?_)
    | (go_at_call 218; with_reducible refine Calls.mono (Tryz.has _ _ _ _ _ tab_n_d h.word h.tab) ?_)
    | (go_at_call 218; with_reducible refine Calls.mono (Tryz.has _ _ _ _ _ tab_n_a h.word h.tab) ?_)
    | (go_at_call 218; with_reducible refine Calls.mono (Tryz.has _ _ _ _ _ tab_n_s h.word h.tab) ?_)
    | (go_at_call 218; with_reducible refine Calls.mono (Tryz.has _ _ _ _ _ tab_n_g h.word h.tab) ?_)
    | (go_at_call 218; with_reducible refine Calls.mono (Tryz.has _ _ _ _ _ tab_n_r h.word h.tab) ?_)); rintro e w2 ⟨rfl, hb2⟩; clear c0 c1 c2 c3 c4 c5 c6 c7 c8 c9 c10 c11 c12; have h2 := h.next hb2; clear hb2 h; have h := h2; clear h2; obtain ⟨c0, c1, c2, c3, c4, c5, c6, c7, c8, c9, c10, c11, c12⟩ := h.box.is; simp only at c0 c1 c2 c3 c4 c5 c6 c7 c8)
  all_goals
    go_ret
    exact ⟨rfl, h.below⟩

set_option maxRecDepth 20000 in
set_option maxHeartbeats 2000000 in
theorem Tryz.only_n4 (k nn vk vn : Int) (vs : ByteArray) (ad : Option Addr) (n cap : Nat) (hv : eq3 vk vn vs 0 0 ⟨#[]⟩ = true) (w : World) (hJ : spaceTab w.heap.size w) : Calls Tryz.prog 163 #[Node.v ⟨k, 0, nn, vk, vn, vs, ⟨#[]⟩, ⟨#[]⟩, true⟩ (.slice ad n cap), .string ⟨#[110]⟩] w fun e w' => e = .returned (.bool false) ∧ Below w.heap.size w w' := by
  have h := On.start hJ ⟨k, 0, nn, vk, vn, vs, ⟨#[]⟩, ⟨#[]⟩, true⟩ (.slice ad n cap) ⟨#[110]⟩
  have hgd := guard23
  have hne := eql23
  unfold Node.v
  go_enter Tryz.func163, Tryz.ntmps163
  simp only [List.append]
  go_upto_region 1 with fail
  generalize (World.alloc (World.alloc w _) _) = W1 at h ⊢
  clear hJ
  obtain ⟨c0, c1, c2, c3, c4, c5, c6, c7, c8, c9, c10, c11, c12⟩ := h.box.is
  simp only at c0 c1 c2 c3 c4 c5 c6 c7 c8
  go_wp2_with ((first
    | (go_at_call 218; with_reducible refine Calls.mono (Tryz.has _ _ _ _ _ tab_n_o h.word h.tab) ?_)
    | (go_at_call 218; with_reducible refine Calls.mono (Tryz.has _ _ _ _ _ tab_n_n h.word h.tab) ?_)
    | (go_at_call 218; with_reducible refine Calls.mono (Tryz.has _ _ _ _ _ tab_n_v h.word h.tab) ?_)
    | (go_at_call 218; with_reducible refine Calls.mono (Tryz.has _ _ _ _ _ tab_n_c h.word h.tab) ?_)
    | (go_at_call 218; with_reducible refine Calls.mono (Tryz.has _ _ _ _ _ tab_n_d h.word h.tab) ?_)
    | (go_at_call 218; with_reducible refine Calls.mono (Tryz.has _ _ _ _ _ tab_n_a h.word h.tab) ?_)
    | (go_at_call 218; with_reducible refine Calls.mono (Tryz.has _ _ _ _ _ tab_n_s h.word h.tab) ?_)
    | (go_at_call 218; with_reducible refine Calls.mono (Tryz.has _ _ _ _ _ tab_n_g h.word h.tab) ?_)
    | (go_at_call 218; with_reducible refine Calls.mono (Tryz.has _ _ _ _ _ tab_n_r h.word h.tab) ?_)); rintro e w2 ⟨rfl, hb2⟩; clear c0 c1 c2 c3 c4 c5 c6 c7 c8 c9 c10 c11 c12; have h2 := h.next hb2; clear hb2 h; have h := h2; clear h2; obtain ⟨c0, c1, c2, c3, c4, c5, c6, c7, c8, c9, c10, c11, c12⟩ := h.box.is; simp only at c0 c1 c2 c3 c4 c5 c6 c7 c8)
  all_goals
    go_ret
    exact ⟨rfl, h.below⟩

set_option maxRecDepth 20000 in
set_option maxHeartbeats 2000000 in
theorem Tryz.only_n5 (k nn vk vn : Int) (vs : ByteArray) (ad : Option Addr) (n cap : Nat) (hv : eq3 vk vn vs 0 0 ⟨#[]⟩ = true) (hf : ¬ (n : Int) = 0) (w : World) (hJ : spaceTab w.heap.size w) : Calls Tryz.prog 163 #[Node.v ⟨k, 0, nn, vk, vn, vs, ⟨#[]⟩, ⟨#[]⟩, false⟩ (.slice ad n cap), .string ⟨#[110]⟩] w fun e w' => e = .returned (.bool false) ∧ Below w.heap.size w w' := by
  have h := On.start hJ ⟨k, 0, nn, vk, vn, vs, ⟨#[]⟩, ⟨#[]⟩, false⟩ (.slice ad n cap) ⟨#[110]⟩
  have hgd := guard23
  have hne := eql23
  unfold Node.v
  go_enter Tryz.func163, Tryz.ntmps163
  simp only [List.append]
  go_upto_region 1 with fail
  generalize (World.alloc (World.alloc w _) _) = W1 at h ⊢
  clear hJ
  obtain ⟨c0, c1, c2, c3, c4, c5, c6, c7, c8, c9, c10, c11, c12⟩ := h.box.is
  simp only at c0 c1 c2 c3 c4 c5 c6 c7 c8
  go_wp2_with ((first
    | (go_at_call 218; with_reducible refine Calls.mono (Tryz.has _ _ _ _ _ tab_n_o h.word h.tab) ?_)
    | (go_at_call 218; with_reducible refine Calls.mono (Tryz.has _ _ _ _ _ tab_n_n h.word h.tab) ?_)
    | (go_at_call 218; with_reducible refine Calls.mono (Tryz.has _ _ _ _ _ tab_n_v h.word h.tab) ?_)
    | (go_at_call 218; with_reducible refine Calls.mono (Tryz.has _ _ _ _ _ tab_n_c h.word h.tab) ?_)
    | (go_at_call 218; with_reducible refine Calls.mono (Tryz.has _ _ _ _ _ tab_n_d h.word h.tab) ?_)
    | (go_at_call 218; with_reducible refine Calls.mono (Tryz.has _ _ _ _ _ tab_n_a h.word h.tab) ?_)
    | (go_at_call 218; with_reducible refine Calls.mono (Tryz.has _ _ _ _ _ tab_n_s h.word h.tab) ?_)
    | (go_at_call 218; with_reducible refine Calls.mono (Tryz.has _ _ _ _ _ tab_n_g h.word h.tab) ?_)
    | (go_at_call 218; with_reducible refine Calls.mono (Tryz.has _ _ _ _ _ tab_n_r h.word h.tab) ?_)); rintro e w2 ⟨rfl, hb2⟩; clear c0 c1 c2 c3 c4 c5 c6 c7 c8 c9 c10 c11 c12; have h2 := h.next hb2; clear hb2 h; have h := h2; clear h2; obtain ⟨c0, c1, c2, c3, c4, c5, c6, c7, c8, c9, c10, c11, c12⟩ := h.box.is; simp only at c0 c1 c2 c3 c4 c5 c6 c7 c8)
  all_goals
    go_ret
    exact ⟨rfl, h.below⟩

set_option maxRecDepth 20000 in
set_option maxHeartbeats 2000000 in
theorem Tryz.only_n6 (k nn vk vn : Int) (vs : ByteArray) (ad : Option Addr) (cap : Nat) (hv : eq3 vk vn vs 0 0 ⟨#[]⟩ = true) (w : World) (hJ : spaceTab w.heap.size w) : Calls Tryz.prog 163 #[Node.v ⟨k, 0, nn, vk, vn, vs, ⟨#[]⟩, ⟨#[]⟩, false⟩ (.slice ad 0 cap), .string ⟨#[110]⟩] w fun e w' => e = .returned (.bool true) ∧ Below w.heap.size w w' := by
  have h := On.start hJ ⟨k, 0, nn, vk, vn, vs, ⟨#[]⟩, ⟨#[]⟩, false⟩ (.slice ad 0 cap) ⟨#[110]⟩
  have hgd := guard23
  have hne := eql23
  unfold Node.v
  go_enter Tryz.func163, Tryz.ntmps163
  simp only [List.append]
  go_upto_region 1 with fail
  generalize (World.alloc (World.alloc w _) _) = W1 at h ⊢
  clear hJ
  obtain ⟨c0, c1, c2, c3, c4, c5, c6, c7, c8, c9, c10, c11, c12⟩ := h.box.is
  simp only at c0 c1 c2 c3 c4 c5 c6 c7 c8
  go_wp2_with ((first
    | (go_at_call 218; with_reducible refine Calls.mono (Tryz.has _ _ _ _ _ tab_n_o h.word h.tab) ?_)
    | (go_at_call 218; with_reducible refine Calls.mono (Tryz.has _ _ _ _ _ tab_n_n h.word h.tab) ?_)
    | (go_at_call 218; with_reducible refine Calls.mono (Tryz.has _ _ _ _ _ tab_n_v h.word h.tab) ?_)
    | (go_at_call 218; with_reducible refine Calls.mono (Tryz.has _ _ _ _ _ tab_n_c h.word h.tab) ?_)
    | (go_at_call 218; with_reducible refine Calls.mono (Tryz.has _ _ _ _ _ tab_n_d h.word h.tab) ?_)
    | (go_at_call 218; with_reducible refine Calls.mono (Tryz.has _ _ _ _ _ tab_n_a h.word h.tab) ?_)
    | (go_at_call 218; with_reducible refine Calls.mono (Tryz.has _ _ _ _ _ tab_n_s h.word h.tab) ?_)
    | (go_at_call 218; with_reducible refine Calls.mono (Tryz.has _ _ _ _ _ tab_n_g h.word h.tab) ?_)
    | (go_at_call 218; with_reducible refine Calls.mono (Tryz.has _ _ _ _ _ tab_n_r h.word h.tab) ?_)); rintro e w2 ⟨rfl, hb2⟩; clear c0 c1 c2 c3 c4 c5 c6 c7 c8 c9 c10 c11 c12; have h2 := h.next hb2; clear hb2 h; have h := h2; clear h2; obtain ⟨c0, c1, c2, c3, c4, c5, c6, c7, c8, c9, c10, c11, c12⟩ := h.box.is; simp only at c0 c1 c2 c3 c4 c5 c6 c7 c8)
  all_goals
    go_ret
    exact ⟨rfl, h.below⟩

theorem Tryz.only_n (x : Node) (ad : Option Addr) (n cap : Nat) (w : World) (hJ : spaceTab w.heap.size w) : Calls Tryz.prog 163 #[x.v (.slice ad n cap), .string ⟨#[110]⟩] w fun e w' => e = .returned (.bool (onlyB false true false false false x n)) ∧ Below w.heap.size w w' := by
  obtain ⟨k, op, nn, vk, vn, vs, src, name, dist⟩ := x
  by_cases h1 : op = 0
  case neg => skip; exact (Tryz.only_n0 k op nn vk vn vs src name dist ad n cap  (by simpa using h1) w hJ).mono fun e w' h => ⟨h.1.trans (by unfold onlyB; simp [*]), h.2⟩
  subst h1
  by_cases h3 : eq3 vk vn vs 0 0 ⟨#[]⟩ = true
  case neg => skip; exact (Tryz.only_n1 k nn vk vn vs src name dist ad n cap  (by simpa using h3) w hJ).mono fun e w' h => ⟨h.1.trans (by unfold onlyB; simp [*]), h.2⟩
  by_cases h4 : src.toList = []
  case neg => skip; exact (Tryz.only_n2 k nn vk vn vs src name dist ad n cap h3 h4 w hJ).mono fun e w' h => ⟨h.1.trans (by unfold onlyB; simp [*]), h.2⟩
  obtain rfl := empty_of h4
  by_cases h5 : name.toList = []
  case neg => skip; exact (Tryz.only_n3 k nn vk vn vs name dist ad n cap h3 h5 w hJ).mono fun e w' h => ⟨h.1.trans (by unfold onlyB; simp [*]), h.2⟩
  obtain rfl := empty_of h5
  by_cases h6 : dist = false
  case neg => obtain rfl : dist = true := (by cases dist <;> simp_all); exact (Tryz.only_n4 k nn vk vn vs ad n cap h3  w hJ).mono fun e w' h => ⟨h.1.trans (by unfold onlyB; simp [*]), h.2⟩
  subst h6
  by_cases h7 : n = 0
  case neg => skip; exact (Tryz.only_n5 k nn vk vn vs ad n cap h3 (by omega) w hJ).mono fun e w' h => ⟨h.1.trans (by unfold onlyB; simp [*]), h.2⟩
  subst h7
  exact (Tryz.only_n6 k nn vk vn vs ad cap h3 w hJ).mono fun e w' h => ⟨h.1.trans (by unfold onlyB; simp [*]), h.2⟩

end Go.Proofs

namespace Go.Proofs
open Go.RowKit Go.Ke

set_option maxRecDepth 20000 in
set_option maxHeartbeats 2000000 in
theorem Tryz.only_c0 (k op nn vk vn : Int) (vs src name : ByteArray) (dist : Bool) (ad : Option Addr) (n cap : Nat) (hf : (op == 0) = false) (w : World) (hJ : spaceTab w.heap.size w) : Calls Tryz.prog 163 #[Node.v ⟨k, op, nn, vk, vn, vs, src, name, dist⟩ (.slice ad n cap), .string ⟨#[99]⟩] w fun e w' => e = .returned (.bool false) ∧ Below w.heap.size w w' := by
  have h := On.start hJ ⟨k, op, nn, vk, vn, vs, src, name, dist⟩ (.slice ad n cap) ⟨#[99]⟩
  have hgd := guard23
  have hne := eql23
  unfold Node.v
  go_enter Tryz.func163, Tryz.ntmps163
  simp only [List.append]
  go_upto_region 1 with fail
  generalize (World.alloc (World.alloc w _) _) = W1 at h ⊢
  clear hJ
  obtain ⟨c0, c1, c2, c3, c4, c5, c6, c7, c8, c9, c10, c11, c12⟩ := h.box.is
  simp only at c0 c1 c2 c3 c4 c5 c6 c7 c8
  go_wp2_with ((first
    | (go_at_call 218; with_reducible refine Calls.mono (Tryz.has _ _ _ _ _ tab_c_o h.word h.tab) ?_)
    | (go_at_call 218; with_reducible refine Calls.mono (Tryz.has _ _ _ _ _ tab_c_n h.word h.tab) ?_)
    | (go_at_call 218; with_reducible refine Calls.mono (Tryz.has _ _ _ _ _ tab_c_v h.word h.tab) ?_)
    | (go_at_call 218; with_reducible refine Calls.mono (Tryz.has _ _ _ _ _ tab_c_c h.word h.tab) ?_)
    | (go_at_call 218; with_reducible refine Calls.mono (Tryz.has _ _ _ _ _ tab_c_d h.word h.tab) ?_)
    | (go_at_call 218; with_reducible refine Calls.mono (Tryz.has _ _ _ _ _ tab_c_a h.word h.tab) ?_)
    | (go_at_call 218; with_reducible refine Calls.mono (Tryz.has _ _ _ _ _ tab_c_s h.word h.tab) ?_)
    | (go_at_call 218; with_reducible refine Calls.mono (Tryz.has _ _ _ _ _ tab_c_g h.word h.tab) ?_)
    | (go_at_call 218; with_reducible refine Calls.mono (Tryz.has _ _ _ _ _ tab_c_r h.word h.tab) ?_)); rintro e w2 ⟨rfl, hb2⟩; clear c0 c1 c2 c3 c4 c5 c6 c7 c8 c9 c10 c11 c12; have h2 := h.next hb2; clear hb2 h; have h := h2; clear h2; obtain ⟨c0, c1, c2, c3, c4, c5, c6, c7, c8, c9, c10, c11, c12⟩ := h.box.is; simp only at c0 c1 c2 c3 c4 c5 c6 c7 c8)
  all_goals
    go_ret
    exact ⟨rfl, h.below⟩

set_option maxRecDepth 20000 in
set_option maxHeartbeats 2000000 in
theorem Tryz.only_c1 (k nn vk vn : Int) (vs src name : ByteArray) (dist : Bool) (ad : Option Addr) (n cap : Nat) (hf : (nn == 0) = false) (w : World) (hJ : spaceTab w.heap.size w) : Calls Tryz.prog 163 #[Node.v ⟨k, 0, nn, vk, vn, vs, src, name, dist⟩ (.slice ad n cap), .string ⟨#[99]⟩] w fun e w' => e = .returned (.bool false) ∧ Below w.heap.size w w' := by
  have h := On.start hJ ⟨k, 0, nn, vk, vn, vs, src, name, dist⟩ (.slice ad n cap) ⟨#[99]⟩
  have hgd := guard23
  have hne := eql23
  unfold Node.v
  go_enter Tryz.func163, Tryz.ntmps163
  simp only [List.append]
  go_upto_region 1 with fail
  generalize (World.alloc (World.alloc w _) _) = W1 at h ⊢
  clear hJ
  obtain ⟨c0, c1, c2, c3, c4, c5, c6, c7, c8, c9, c10, c11, c12⟩ := h.box.is
  simp only at c0 c1 c2 c3 c4 c5 c6 c7 c8
  go_wp2_with ((first
    | (go_at_call 218; with_reducible refine Calls.mono (Tryz.has _ _ _ _ _ tab_c_o h.word h.tab) ?_)
    | (go_at_call 218; with_reducible refine Calls.mono (Tryz.has _ _ _ _ _ tab_c_n h.word h.tab) ?_)
    | (go_at_call 218; with_reducible refine Calls.mono (Tryz.has _ _ _ _ _ tab_c_v h.word h.tab) ?_)
    | (go_at_call 218; with_reducible refine Calls.mono (Tryz.has _ _ _ _ _ tab_c_c h.word h.tab) ?_)
    | (go_at_call 218; with_reducible refine Calls.mono (Tryz.has _ _ _ _ _ tab_c_d h.word h.tab) ?_)
    | (go_at_call 218; with_reducible refine Calls.mono (Tryz.has _ _ _ _ _ tab_c_a h.word h.tab) ?_)
    | (go_at_call 218; with_reducible refine Calls.mono (Tryz.has _ _ _ _ _ tab_c_s h.word h.tab) ?_)
    | (go_at_call 218; with_reducible refine Calls.mono (Tryz.has _ _ _ _ _ tab_c_g h.word h.tab) ?_)
    | (go_at_call 218; with_reducible refine Calls.mono (Tryz.has _ _ _ _ _ tab_c_r h.word h.tab) ?_)); rintro e w2 ⟨rfl, hb2⟩; clear c0 c1 c2 c3 c4 c5 c6 c7 c8 c9 c10 c11 c12; have h2 := h.next hb2; clear hb2 h; have h := h2; clear h2; obtain ⟨c0, c1, c2, c3, c4, c5, c6, c7, c8, c9, c10, c11, c12⟩ := h.box.is; simp only at c0 c1 c2 c3 c4 c5 c6 c7 c8)
  all_goals
    go_ret
    exact ⟨rfl, h.below⟩

set_option maxRecDepth 20000 in
set_option maxHeartbeats 2000000 in
theorem Tryz.only_c2 (k vk vn : Int) (vs src name : ByteArray) (dist : Bool) (ad : Option Addr) (n cap : Nat) (hf : eq3 vk vn vs 0 0 ⟨#[]⟩ = false) (w : World) (hJ : spaceTab w.heap.size w) : Calls Tryz.prog 163 #[Node.v ⟨k, 0, 0, vk, vn, vs, src, name, dist⟩ (.slice ad n cap), .string ⟨#[99]⟩] w fun e w' => e = .returned (.bool false) ∧ Below w.heap.size w w' := by
  have h := On.start hJ ⟨k, 0, 0, vk, vn, vs, src, name, dist⟩ (.slice ad n cap) ⟨#[99]⟩
  have hgd := guard23
  have hne := eql23
  unfold Node.v
  go_enter Tryz.func163, Tryz.ntmps163
  simp only [List.append]
  go_upto_region 1 with fail
  generalize (World.alloc (World.alloc w _) _) = W1 at h ⊢
  clear hJ
  obtain ⟨c0, c1, c2, c3, c4, c5, c6, c7, c8, c9, c10, c11, c12⟩ := h.box.is
  simp only at c0 c1 c2 c3 c4 c5 c6 c7 c8
  go_wp2_with ((first
    | (go_at_call 218; with_reducible refine Calls.mono (Tryz.has _ _ _ _ _ tab_c_o h.word h.tab) ?_)
    | (go_at_call 218; with_reducible refine Calls.mono (Tryz.has _ _ _ _ _ tab_c_n h.word h.tab) ?_)
    | (go_at_call 218; with_reducible refine Calls.mono (Tryz.has _ _ _ _ _ tab_c_v h.word h.tab) ?_)
    | (go_at_call 218; with_reducible refine Calls.mono (Tryz.has _ _ _ _ _ tab_c_c h.word h.tab) ?_)
    | (go_at_call 218; with_reducible refine Calls.mono (Tryz.has _ _ _ _ _ tab_c_d h.word h.tab) ?_)
    | (go_at_call 218; with_reducible refine Calls.mono (Tryz.has _ _ _ _ _ tab_c_a h.word h.tab) ?_)
    | (go_at_call 218; with_reducible refine Calls.mono (Tryz.has _ _ _ _ _ tab_c_s h.word h.tab) ?_)
    | (go_at_call 218; with_reducible refine Calls.mono (Tryz.has _ _ _ _ _ tab_c_g h.word h.tab) ?_)
    | (go_at_call 218; with_reducible refine Calls.mono (Tryz.has _ _ _ _ _ tab_c_r h.word h.tab) ?_)); rintro e w2 ⟨rfl, hb2⟩; clear c0 c1 c2 c3 c4 c5 c6 c7 c8 c9 c10 c11 c12; have h2 := h.next hb2; clear hb2 h; have h := h2; clear h2; obtain ⟨c0, c1, c2, c3, c4, c5, c6, c7, c8, c9, c10, c11, c12⟩ := h.box.is; simp only at c0 c1 c2 c3 c4 c5 c6 c7 c8)
  all_goals
    go_ret
    exact ⟨rfl, h.below⟩

set_option maxRecDepth 20000 in
set_option maxHeartbeats 2000000 in
theorem Tryz.only_c3 (k vk vn : Int) (vs src name : ByteArray) (ad : Option Addr) (n cap : Nat) (hv : eq3 vk vn vs 0 0 ⟨#[]⟩ = true) (w : World) (hJ : spaceTab w.heap.size w) : Calls Tryz.prog 163 #[Node.v ⟨k, 0, 0, vk, vn, vs, src, name, true⟩ (.slice ad n cap), .string ⟨#[99]⟩] w fun e w' => e = .returned (.bool false) ∧ Below w.heap.size w w' := by
  have h := On.start hJ ⟨k, 0, 0, vk, vn, vs, src, name, true⟩ (.slice ad n cap) ⟨#[99]⟩
  have hgd := guard23
  have hne := eql23
  unfold Node.v
  go_enter Tryz.func163, Tryz.ntmps163
  simp only [List.append]
  go_upto_region 1 with fail
  generalize (World.alloc (World.alloc w _) _) = W1 at h ⊢
  clear hJ
  obtain ⟨c0, c1, c2, c3, c4, c5, c6, c7, c8, c9, c10, c11, c12⟩ := h.box.is
  simp only at c0 c1 c2 c3 c4 c5 c6 c7 c8
  go_wp2_with ((first
    | (go_at_call 218; with_reducible refine Calls.mono (Tryz.has _ _ _ _ _ tab_c_o h.word h.tab) ?_)
    | (go_at_call 218; with_reducible refine Calls.mono (Tryz.has _ _ _ _ _ tab_c_n h.word h.tab) ?_)
    | (go_at_call 218; with_reducible refine Calls.mono (Tryz.has _ _ _ _ _ tab_c_v h.word h.tab) ?_)
    | (go_at_call 218; with_reducible refine Calls.mono (Tryz.has _ _ _ _ _ tab_c_c h.word h.tab) ?_)
    | (go_at_call 218; with_reducible refine Calls.mono (Tryz.has _ _ _ _ _ tab_c_d h.word h.tab) ?_)
    | (go_at_call 218; with_reducible refine Calls.mono (Tryz.has _ _ _ _ _ tab_c_a h.word h.tab) ?_)
    | (go_at_call 218; with_reducible refine Calls.mono (Tryz.has _ _ _ _ _ tab_c_s h.word h.tab) ?_)
    | (go_at_call 218; with_reducible refine Calls.mono (Tryz.has _ _ _ _ _ tab_c_g h.word h.tab) ?_)
    | (go_at_call 218; with_reducible refine Calls.mono (Tryz.has _ _ _ _ _ tab_c_r h.word h.tab) ?_)); rintro e w2 ⟨rfl, hb2⟩; clear c0 c1 c2 c3 c4 c5 c6 c7 c8 c9 c10 c11 c12; have h2 := h.next hb2; clear hb2 h; have h := h2; clear h2; obtain ⟨c0, c1, c2, c3, c4, c5, c6, c7, c8, c9, c10, c11, c12⟩ := h.box.is; simp only at c0 c1 c2 c3 c4 c5 c6 c7 c8)
  all_goals
    go_ret
    exact ⟨rfl, h.below⟩

set_option maxRecDepth 20000 in
set_option maxHeartbeats 2000000 in
theorem Tryz.only_c4 (k vk vn : Int) (vs src name : ByteArray) (ad : Option Addr) (n cap : Nat) (hv : eq3 vk vn vs 0 0 ⟨#[]⟩ = true) (hf : ¬ (n : Int) = 0) (w : World) (hJ : spaceTab w.heap.size w) : Calls Tryz.prog 163 #[Node.v ⟨k, 0, 0, vk, vn, vs, src, name, false⟩ (.slice ad n cap), .string ⟨#[99]⟩] w fun e w' => e = .returned (.bool false) ∧ Below w.heap.size w w' := by
  have h := On.start hJ ⟨k, 0, 0, vk, vn, vs, src, name, false⟩ (.slice ad n cap) ⟨#[99]⟩
  have hgd := guard23
  have hne := eql23
  unfold Node.v
  go_enter Tryz.func163, Tryz.ntmps163
  simp only [List.append]
  go_upto_region 1 with fail
  generalize (World.alloc (World.alloc w _) _) = W1 at h ⊢
  clear hJ
  obtain ⟨c0, c1, c2, c3, c4, c5, c6, c7, c8, c9, c10, c11, c12⟩ := h.box.is
  simp only at c0 c1 c2 c3 c4 c5 c6 c7 c8
  go_wp2_with ((first
    | (go_at_call 218; with_reducible refine Calls.mono (Tryz.has _ _ _ _ _ tab_c_o h.word h.tab) ?_)
    | (go_at_call 218; with_reducible refine Calls.mono (Tryz.has _ _ _ _ _ tab_c_n h.word h.tab) ?_)
    | (go_at_call 218; with_reducible refine Calls.mono (Tryz.has _ _ _ _ _ tab_c_v h.word h.tab) ?_)
    | (go_at_call 218; with_reducible refine Calls.mono (Tryz.has _ _ _ _ _ tab_c_c h.word h.tab) ?_)
    | (go_at_call 218; with_reducible refine Calls.mono (Tryz.has _ _ _ _ _ tab_c_d h.word h.tab) ?_)
    | (go_at_call 218; with_reducible refine Calls.mono (Tryz.has _ _ _ _ _ tab_c_a h.word h.tab) ?_)
    | (go_at_call 218; with_reducible refine Calls.mono (Tryz.has _ _ _ _ _ tab_c_s h.word h.tab) ?_)
    | (go_at_call 218; with_reducible refine Calls.mono (Tryz.has _ _ _ _ _ tab_c_g h.word h.tab) ?_)
    | (go_at_call 218; with_reducible refine Calls.mono (Tryz.has _ _ _ _ _ tab_c_r h.word h.tab) ?_)); rintro e w2 ⟨rfl, hb2⟩; clear c0 c1 c2 c3 c4 c5 c6 c7 c8 c9 c10 c11 c12; have h2 := h.next hb2; clear hb2 h; have h := h2; clear h2; obtain ⟨c0, c1, c2, c3, c4, c5, c6, c7, c8, c9, c10, c11, c12⟩ := h.box.is; simp only at c0 c1 c2 c3 c4 c5 c6 c7 c8)
  all_goals
    go_ret
    exact ⟨rfl, h.below⟩

set_option maxRecDepth 20000 in
set_option maxHeartbeats 2000000 in
theorem Tryz.only_c5 (k vk vn : Int) (vs src name : ByteArray) (ad : Option Addr) (cap : Nat) (hv : eq3 vk vn vs 0 0 ⟨#[]⟩ = true) (w : World) (hJ : spaceTab w.heap.size w) : Calls Tryz.prog 163 #[Node.v ⟨k, 0, 0, vk, vn, vs, src, name, false⟩ (.slice ad 0 cap), .string ⟨#[99]⟩] w fun e w' => e = .returned (.bool true) ∧ Below w.heap.size w w' := by
  have h := On.start hJ ⟨k, 0, 0, vk, vn, vs, src, name, false⟩ (.slice ad 0 cap) ⟨#[99]⟩
  have hgd := guard23
  have hne := eql23
  unfold Node.v
  go_enter Tryz.func163, Tryz.ntmps163
  simp only [List.append]
  go_upto_region 1 with fail
  generalize (World.alloc (World.alloc w _) _) = W1 at h ⊢
  clear hJ
  obtain ⟨c0, c1, c2, c3, c4, c5, c6, c7, c8, c9, c10, c11, c12⟩ := h.box.is
  simp only at c0 c1 c2 c3 c4 c5 c6 c7 c8
  go_wp2_with ((first
    | (go_at_call 218; with_reducible refine Calls.mono (Tryz.has _ _ _ _ _ tab_c_o h.word h.tab) ?_)
    | (go_at_call 218; with_reducible refine Calls.mono (Tryz.has _ _ _ _ _ tab_c_n h.word h.tab) ?_)
    | (go_at_call 218; with_reducible refine Calls.mono (Tryz.has _ _ _ _ _ tab_c_v h.word h.tab) ?_)
    | (go_at_call 218; with_reducible refine Calls.mono (Tryz.has _ _ _ _ _ tab_c_c h.word h.tab) ?_)
    | (go_at_call 218; with_reducible refine Calls.mono (Tryz.has _ _ _ _ _ tab_c_d h.word h.tab) ?_)
    | (go_at_call 218; with_reducible refine Calls.mono (Tryz.has _ _ _ _ _ tab_c_a h.word h.tab) ?_)
    | (go_at_call 218; with_reducible refine Calls.mono (Tryz.has _ _ _ _ _ tab_c_s h.word h.tab) ?_)
    | (go_at_call 218; with_reducible refine Calls.mono (Tryz.has _ _ _ _ _ tab_c_g h.word h.tab) ?_)
    | (go_at_call 218; with_reducible refine Calls.mono (Tryz.has _ _ _ _ _ tab_c_r h.word h.tab) ?_)); rintro e w2 ⟨rfl, hb2⟩; clear c0 c1 c2 c3 c4 c5 c6 c7 c8 c9 c10 c11 c12; have h2 := h.next hb2; clear hb2 h; have h := h2; clear h2; obtain ⟨c0, c1, c2, c3, c4, c5, c6, c7, c8, c9, c10, c11, c12⟩ := h.box.is; simp only at c0 c1 c2 c3 c4 c5 c6 c7 c8)
  all_goals
    go_ret
    exact ⟨rfl, h.below⟩

theorem Tryz.only_c (x : Node) (ad : Option Addr) (n cap : Nat) (w : World) (hJ : spaceTab w.heap.size w) : Calls Tryz.prog 163 #[x.v (.slice ad n cap), .string ⟨#[99]⟩] w fun e w' => e = .returned (.bool (onlyB false false false true false x n)) ∧ Below w.heap.size w w' := by
  obtain ⟨k, op, nn, vk, vn, vs, src, name, dist⟩ := x
  by_cases h1 : op = 0
  case neg => skip; exact (Tryz.only_c0 k op nn vk vn vs src name dist ad n cap  (by simpa using h1) w hJ).mono fun e w' h => ⟨h.1.trans (by unfold onlyB; simp [*]), h.2⟩
  subst h1
  by_cases h2 : nn = 0
  case neg => skip; exact (Tryz.only_c1 k nn vk vn vs src name dist ad n cap  (by simpa using h2) w hJ).mono fun e w' h => ⟨h.1.trans (by unfold onlyB; simp [*]), h.2⟩
  subst h2
  by_cases h3 : eq3 vk vn vs 0 0 ⟨#[]⟩ = true
  case neg => skip; exact (Tryz.only_c2 k vk vn vs src name dist ad n cap  (by simpa using h3) w hJ).mono fun e w' h => ⟨h.1.trans (by unfold onlyB; simp [*]), h.2⟩
  by_cases h6 : dist = false
  case neg => obtain rfl : dist = true := (by cases dist <;> simp_all); exact (Tryz.only_c3 k vk vn vs src name ad n cap h3  w hJ).mono fun e w' h => ⟨h.1.trans (by unfold onlyB; simp [*]), h.2⟩
  subst h6
  by_cases h7 : n = 0
  case neg => skip; exact (Tryz.only_c4 k vk vn vs src name ad n cap h3 (by omega) w hJ).mono fun e w' h => ⟨h.1.trans (by unfold onlyB; simp [*]), h.2⟩
  subst h7
  exact (Tryz.only_c5 k vk vn vs src name ad cap h3 w hJ).mono fun e w' h => ⟨h.1.trans (by unfold onlyB; simp [*]), h.2⟩

end Go.Proofs
