/- Of the document's package: which fields a part of an expression may bear: what is asked. The condition: the library's table of white space. -/
import Derived.Test.YtkpligcifakmjaaGreatDoorForm
namespace Go.Proofs
open Go.RowKit Go.Ke

def onlyB (o nn v c a : Bool) (x : Node) (n : Nat) : Bool :=
  (o || (x.op == 0)) && ((nn || (x.n == 0)) && ((v || eq3 x.vk x.vn x.vs 0 0 ⟨#[]⟩) && ((c || (x.src.toList.isEmpty && x.name.toList.isEmpty)) && (!x.dist && (a || ((n : Int) == 0))))))

theorem space_next {W w2 : World} (h : spaceTab W.heap.size W) (hb : Below W.heap.size W w2) : spaceTab w2.heap.size w2 := Lib.tabBelow_of_tabIs (Lib.TabBelow.here (Lib.TabBelow.on h hb))

theorem sum219 (a b : ByteArray) : sumX 219 [.string a, .string b] St.empty = none := rfl

theorem Tryz.contains (f c : ByteArray) (r : Bool) (w : World) (hc : runC 219 [.string f, .string c] = some (.bool r)) (hJ : spaceTab w.heap.size w) :
    Calls Tryz.prog 219 #[.string f, .string c] w fun e w' => e = .returned (.bool r) ∧ Below w.heap.size w w' :=
  pure_call (sum219 f c) rfl hc w hJ

theorem Tryz.has (g : Nat) (f c : ByteArray) (r : Bool) (w : World) (hc : runC 219 [.string f, .string c] = some (.bool r)) (hg : w.heap[g]? = some (.cells #[.string f] 9)) (hJ : spaceTab w.heap.size w) :
    Calls Tryz.prog 218 #[.string c, .pointer (some ⟨g, 0, none⟩)] w fun e w' => e = .returned (.bool r) ∧ Below w.heap.size w w' := by
  have hk := Tryz.contains f c r w hc hJ
  have cg : w.cell? ⟨g, 0, none⟩ = some (.string f) := by simp [World.cell?, hg]
  go_enter Tryz.func218, Tryz.ntmps218
  go_wp2_with (first | (go_at_call 219; refine hk.mono ?_; rintro e w2 ⟨rfl, hb2⟩))
  go_ret
  exact ⟨rfl, hb2⟩

/-- A part in a box and a word behind it. -/
structure On (w W : World) (x : Node) (v : Value) (f : ByteArray) : Prop where
  below : Below w.heap.size w W
  box : Box W w.heap.size x v
  word : W.heap[w.heap.size + 1]? = some (.cells #[.string f] 9)
  tab : spaceTab W.heap.size W

theorem On.start {w : World} (hJ : spaceTab w.heap.size w) (x : Node) (v : Value) (f : ByteArray) : On w ((w.alloc (.cells (x.cells v) 57)).alloc (.cells #[.string f] 9)) x v f := by
  have hs := ex_alloc_size w (.cells (x.cells v) 57)
  have hw := ((Below.refl w.heap.size w).alloc (Nat.le_refl _) (.cells (x.cells v) 57)).alloc (by omega) (.cells #[.string f] 9)
  exact ⟨hw, (heap_alloc_old _ _ (by omega)).trans (Box.new _ _ _), by rw [← hs]; exact heap_alloc_new _ _, Lib.tabBelow_of_tabIs (hJ.on hw).here⟩

theorem On.next {w W w2 : World} {x : Node} {v : Value} {f : ByteArray} (h : On w W x v f) (hb : Below W.heap.size W w2) : On w w2 x v f :=
  ⟨below_next h.below hb, h.box.next hb, (hb.block _ (Array.getElem?_eq_some_iff.1 h.word).1).trans h.word, space_next h.tab hb⟩

theorem empty_of {s : ByteArray} (h : s.toList = []) : s = ⟨#[]⟩ := by
  rw [ByteArray.toList_eq] at h
  cases s with
  | mk d => cases d with
    | mk l => simp at h; subst h; rfl

theorem tab_v_o : runC 219 [.string ⟨#[118]⟩, .string ⟨#[111]⟩] = some (.bool false) := by kernel_rfl
theorem tab_v_n : runC 219 [.string ⟨#[118]⟩, .string ⟨#[110]⟩] = some (.bool false) := by kernel_rfl
theorem tab_v_v : runC 219 [.string ⟨#[118]⟩, .string ⟨#[118]⟩] = some (.bool true) := by kernel_rfl
theorem tab_v_c : runC 219 [.string ⟨#[118]⟩, .string ⟨#[99]⟩] = some (.bool false) := by kernel_rfl
theorem tab_v_d : runC 219 [.string ⟨#[118]⟩, .string ⟨#[100]⟩] = some (.bool false) := by kernel_rfl
theorem tab_v_a : runC 219 [.string ⟨#[118]⟩, .string ⟨#[97]⟩] = some (.bool false) := by kernel_rfl
theorem tab_v_s : runC 219 [.string ⟨#[118]⟩, .string ⟨#[115]⟩] = some (.bool false) := by kernel_rfl
theorem tab_v_g : runC 219 [.string ⟨#[118]⟩, .string ⟨#[103]⟩] = some (.bool false) := by kernel_rfl
theorem tab_v_r : runC 219 [.string ⟨#[118]⟩, .string ⟨#[114]⟩] = some (.bool false) := by kernel_rfl
theorem tab_n_o : runC 219 [.string ⟨#[110]⟩, .string ⟨#[111]⟩] = some (.bool false) := by kernel_rfl
theorem tab_n_n : runC 219 [.string ⟨#[110]⟩, .string ⟨#[110]⟩] = some (.bool true) := by kernel_rfl
theorem tab_n_v : runC 219 [.string ⟨#[110]⟩, .string ⟨#[118]⟩] = some (.bool false) := by kernel_rfl
theorem tab_n_c : runC 219 [.string ⟨#[110]⟩, .string ⟨#[99]⟩] = some (.bool false) := by kernel_rfl
theorem tab_n_d : runC 219 [.string ⟨#[110]⟩, .string ⟨#[100]⟩] = some (.bool false) := by kernel_rfl
theorem tab_n_a : runC 219 [.string ⟨#[110]⟩, .string ⟨#[97]⟩] = some (.bool false) := by kernel_rfl
theorem tab_n_s : runC 219 [.string ⟨#[110]⟩, .string ⟨#[115]⟩] = some (.bool false) := by kernel_rfl
theorem tab_n_g : runC 219 [.string ⟨#[110]⟩, .string ⟨#[103]⟩] = some (.bool false) := by kernel_rfl
theorem tab_n_r : runC 219 [.string ⟨#[110]⟩, .string ⟨#[114]⟩] = some (.bool false) := by kernel_rfl
theorem tab_c_o : runC 219 [.string ⟨#[99]⟩, .string ⟨#[111]⟩] = some (.bool false) := by kernel_rfl
theorem tab_c_n : runC 219 [.string ⟨#[99]⟩, .string ⟨#[110]⟩] = some (.bool false) := by kernel_rfl
theorem tab_c_v : runC 219 [.string ⟨#[99]⟩, .string ⟨#[118]⟩] = some (.bool false) := by kernel_rfl
theorem tab_c_c : runC 219 [.string ⟨#[99]⟩, .string ⟨#[99]⟩] = some (.bool true) := by kernel_rfl
theorem tab_c_d : runC 219 [.string ⟨#[99]⟩, .string ⟨#[100]⟩] = some (.bool false) := by kernel_rfl
theorem tab_c_a : runC 219 [.string ⟨#[99]⟩, .string ⟨#[97]⟩] = some (.bool false) := by kernel_rfl
theorem tab_c_s : runC 219 [.string ⟨#[99]⟩, .string ⟨#[115]⟩] = some (.bool false) := by kernel_rfl
theorem tab_c_g : runC 219 [.string ⟨#[99]⟩, .string ⟨#[103]⟩] = some (.bool false) := by kernel_rfl
theorem tab_c_r : runC 219 [.string ⟨#[99]⟩, .string ⟨#[114]⟩] = some (.bool false) := by kernel_rfl
theorem tab_a_o : runC 219 [.string ⟨#[97]⟩, .string ⟨#[111]⟩] = some (.bool false) := by kernel_rfl
theorem tab_a_n : runC 219 [.string ⟨#[97]⟩, .string ⟨#[110]⟩] = some (.bool false) := by kernel_rfl
theorem tab_a_v : runC 219 [.string ⟨#[97]⟩, .string ⟨#[118]⟩] = some (.bool false) := by kernel_rfl
theorem tab_a_c : runC 219 [.string ⟨#[97]⟩, .string ⟨#[99]⟩] = some (.bool false) := by kernel_rfl
theorem tab_a_d : runC 219 [.string ⟨#[97]⟩, .string ⟨#[100]⟩] = some (.bool false) := by kernel_rfl
theorem tab_a_a : runC 219 [.string ⟨#[97]⟩, .string ⟨#[97]⟩] = some (.bool true) := by kernel_rfl
theorem tab_a_s : runC 219 [.string ⟨#[97]⟩, .string ⟨#[115]⟩] = some (.bool false) := by kernel_rfl
theorem tab_a_g : runC 219 [.string ⟨#[97]⟩, .string ⟨#[103]⟩] = some (.bool false) := by kernel_rfl
theorem tab_a_r : runC 219 [.string ⟨#[97]⟩, .string ⟨#[114]⟩] = some (.bool false) := by kernel_rfl
theorem tab_oa_o : runC 219 [.string ⟨#[111, 97]⟩, .string ⟨#[111]⟩] = some (.bool true) := by kernel_rfl
theorem tab_oa_n : runC 219 [.string ⟨#[111, 97]⟩, .string ⟨#[110]⟩] = some (.bool false) := by kernel_rfl
theorem tab_oa_v : runC 219 [.string ⟨#[111, 97]⟩, .string ⟨#[118]⟩] = some (.bool false) := by kernel_rfl
theorem tab_oa_c : runC 219 [.string ⟨#[111, 97]⟩, .string ⟨#[99]⟩] = some (.bool false) := by kernel_rfl
theorem tab_oa_d : runC 219 [.string ⟨#[111, 97]⟩, .string ⟨#[100]⟩] = some (.bool false) := by kernel_rfl
theorem tab_oa_a : runC 219 [.string ⟨#[111, 97]⟩, .string ⟨#[97]⟩] = some (.bool true) := by kernel_rfl
theorem tab_oa_s : runC 219 [.string ⟨#[111, 97]⟩, .string ⟨#[115]⟩] = some (.bool false) := by kernel_rfl
theorem tab_oa_g : runC 219 [.string ⟨#[111, 97]⟩, .string ⟨#[103]⟩] = some (.bool false) := by kernel_rfl
theorem tab_oa_r : runC 219 [.string ⟨#[111, 97]⟩, .string ⟨#[114]⟩] = some (.bool false) := by kernel_rfl
theorem tab_ona_o : runC 219 [.string ⟨#[111, 110, 97]⟩, .string ⟨#[111]⟩] = some (.bool true) := by kernel_rfl
theorem tab_ona_n : runC 219 [.string ⟨#[111, 110, 97]⟩, .string ⟨#[110]⟩] = some (.bool true) := by kernel_rfl
theorem tab_ona_v : runC 219 [.string ⟨#[111, 110, 97]⟩, .string ⟨#[118]⟩] = some (.bool false) := by kernel_rfl
theorem tab_ona_c : runC 219 [.string ⟨#[111, 110, 97]⟩, .string ⟨#[99]⟩] = some (.bool false) := by kernel_rfl
theorem tab_ona_d : runC 219 [.string ⟨#[111, 110, 97]⟩, .string ⟨#[100]⟩] = some (.bool false) := by kernel_rfl
theorem tab_ona_a : runC 219 [.string ⟨#[111, 110, 97]⟩, .string ⟨#[97]⟩] = some (.bool true) := by kernel_rfl
theorem tab_ona_s : runC 219 [.string ⟨#[111, 110, 97]⟩, .string ⟨#[115]⟩] = some (.bool false) := by kernel_rfl
theorem tab_ona_g : runC 219 [.string ⟨#[111, 110, 97]⟩, .string ⟨#[103]⟩] = some (.bool false) := by kernel_rfl
theorem tab_ona_r : runC 219 [.string ⟨#[111, 110, 97]⟩, .string ⟨#[114]⟩] = some (.bool false) := by kernel_rfl

end Go.Proofs
