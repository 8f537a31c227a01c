/- Of the document's package: the kind of a part without parts. No condition. -/
import Derived.Test.YtkpligcifakmjaaGreatDoorCaM
import Derived.Test.YtkpligcifakmjaaGreatDoorSkFit
import Derived.Test.YtkpligcifakmjaaGreatDoorOrdM
namespace Go.Proofs
open Go.RowKit Go.Ke

def leafU (cs : List Col) (ps : List Int) (x : Node) : Int × Int :=
  if x.k == 1 then (if faultN 0 x.vk x.vn x.vs == 0 then (x.vk, 0) else (0, faultN 0 x.vk x.vn x.vs))
  else if x.k == 2 then (if inB x.n 0 ((ps.length : Int) - 1) then (ps.getD x.n.toNat 0, 0) else (0, 1))
  else if x.k == 3 then (if decide (0 ≤ colAt x.src x.name 0 cs) then ((cs.map Col.kind).getD (colAt x.src x.name 0 cs).toNat 0, 0) else (0, 5))
  else if x.k == 4 then (if ((x.op == 27) && !inB x.n 1 4) || (((x.op == 25) || (x.op == 26)) && !inB x.n 1 6) then (0, 1) else (0, 0))
  else (0, 0)

/-- The same, where names and parameters are not asked (but for columns). -/
def leafF (x : Node) : Int × Int :=
  if x.k == 1 then (if faultN 0 x.vk x.vn x.vs == 0 then (x.vk, 0) else (0, faultN 0 x.vk x.vn x.vs))
  else if x.k == 2 then (if inB x.n 0 59 then (0, 0) else (0, 1))
  else if x.k == 4 then (if ((x.op == 27) && !inB x.n 1 4) || (((x.op == 25) || (x.op == 26)) && !inB x.n 1 6) then (0, 1) else (0, 0))
  else (0, 0)

set_option maxRecDepth 20000 in
set_option maxHeartbeats 1000000 in
theorem Tryz.leaf1 (cs : List Col) (ps : List Int) (cad pad : Option Addr) (cc pc N : Nat) (op nn vk vn : Int) (vs src name : ByteArray) (dist : Bool) (ea : Value) (w : World) (_hcs : ColsAt w N cad cs) (_hps : IntsAt w N pad ps) (_hN : N ≤ w.heap.size) (_hcl : cs.length ≤ 1000000) (_hpl : ps.length ≤ 1000000) (hvs : vs.size ≤ 1000000) :
    Calls Tryz.prog 127 #[Node.v ⟨1, op, nn, vk, vn, vs, src, name, dist⟩ ea, .slice cad cs.length cc, .slice pad ps.length pc, .bool true] w fun e w' => e = .returned (.tuple #[.int .i64 (leafU cs ps ⟨1, op, nn, vk, vn, vs, src, name, dist⟩).1, .int .i64 (leafU cs ps ⟨1, op, nn, vk, vn, vs, src, name, dist⟩).2]) ∧ Below w.heap.size w w' := by
  have hw0 : Below w.heap.size w (w.alloc (.cells (Node.cells ⟨1, op, nn, vk, vn, vs, src, name, dist⟩ ea) 57)) := (Below.refl _ _).alloc (Nat.le_refl _) _
  have hB0 : Box (w.alloc (.cells (Node.cells ⟨1, op, nn, vk, vn, vs, src, name, dist⟩ ea) 57)) w.heap.size ⟨1, op, nn, vk, vn, vs, src, name, dist⟩ ea := Box.new _ _ _
  have hs0 := ex_alloc_size w (.cells (Node.cells ⟨1, op, nn, vk, vn, vs, src, name, dist⟩ ea) 57)
  have hvs2 : vs.size ≤ 9223372036854775807 := by omega
  unfold Node.v
  go_enter Tryz.func127, Tryz.ntmps127
  go_upto_region 1 with fail
  generalize w.alloc (.cells (Node.cells ⟨1, op, nn, vk, vn, vs, src, name, dist⟩ ea) 57) = W1 at hB0 hw0 hs0 ⊢
  replace hs0 : w.heap.size < W1.heap.size := by omega
  obtain ⟨c0, c1, c2, c3, c4, c5, c6, c7, c8, c9, c10, c11, c12⟩ := hB0.is
  simp only at c0 c1 c2 c3 c4 c5 c6 c7 c8
  go_wp2_with (first
    | (go_at_call 76; refine (Tryz.anyFault _ _ _ hvs2 _).mono ?_; rintro e w2 ⟨rfl, hb2⟩; have hB2 := hB0.next hb2; have hw2 := below_next hw0 hb2; clear hb2 hB0 hw0; have hB0 := hB2; have hw0 := hw2; clear hB2 hw2; obtain ⟨c0, c1, c2, c3, c4, c5, c6, c7, c8, c9, c10, c11, c12⟩ := hB0.is; simp only at c0 c1 c2 c3 c4 c5 c6 c7 c8))
  all_goals
    go_ret2
    refine ⟨?_, hw0⟩
    unfold leafU
    first | (simp [*]; done) | (by_cases hf : faultN 0 vk vn vs = 0 <;> simp_all; done) | grind

set_option maxRecDepth 20000 in
set_option maxHeartbeats 1000000 in
theorem Tryz.leaf2in (cs : List Col) (ps : List Int) (cad pad : Option Addr) (cc pc N : Nat) (op vk vn : Int) (vs src name : ByteArray) (dist : Bool) (ea : Value) (w : World) (_hcs : ColsAt w N cad cs) (hps : IntsAt w N pad ps) (hN : N ≤ w.heap.size) (_hcl : cs.length ≤ 1000000) (hpl : ps.length ≤ 1000000) (_hvs : vs.size ≤ 1000000) (j : Nat) (hj : j < ps.length) :
    Calls Tryz.prog 127 #[Node.v ⟨2, op, (j : Int), vk, vn, vs, src, name, dist⟩ ea, .slice cad cs.length cc, .slice pad ps.length pc, .bool true] w fun e w' => e = .returned (.tuple #[.int .i64 (leafU cs ps ⟨2, op, (j : Int), vk, vn, vs, src, name, dist⟩).1, .int .i64 (leafU cs ps ⟨2, op, (j : Int), vk, vn, vs, src, name, dist⟩).2]) ∧ Below w.heap.size w w' := by
  have hw0 : Below w.heap.size w (w.alloc (.cells (Node.cells ⟨2, op, (j : Int), vk, vn, vs, src, name, dist⟩ ea) 57)) := (Below.refl _ _).alloc (Nat.le_refl _) _
  have hB0 : Box (w.alloc (.cells (Node.cells ⟨2, op, (j : Int), vk, vn, vs, src, name, dist⟩ ea) 57)) w.heap.size ⟨2, op, (j : Int), vk, vn, vs, src, name, dist⟩ ea := Box.new _ _ _
  have hs0 := ex_alloc_size w (.cells (Node.cells ⟨2, op, (j : Int), vk, vn, vs, src, name, dist⟩ ea) 57)
  unfold Node.v
  go_enter Tryz.func127, Tryz.ntmps127
  go_upto_region 1 with fail
  generalize w.alloc (.cells (Node.cells ⟨2, op, (j : Int), vk, vn, vs, src, name, dist⟩ ea) 57) = W1 at hB0 hw0 hs0 ⊢
  replace hs0 : w.heap.size < W1.heap.size := by omega
  obtain ⟨c0, c1, c2, c3, c4, c5, c6, c7, c8, c9, c10, c11, c12⟩ := hB0.is
  simp only at c0 c1 c2 c3 c4 c5 c6 c7 c8
  obtain ⟨p, o, rfl, hp, d, _, _⟩ := (hps.below (hw0.mono hN)) j hj
  have hin : inB (j : Int) 0 ((ps.length : Int) - 1) = true := by unfold inB; simp; omega
  have hj2 : (j : Int) < ps.length := by omega
  have hspec : leafU cs ps ⟨2, op, (j : Int), vk, vn, vs, src, name, dist⟩ = (ps[j], 0) := by unfold leafU; simp [hin, hj]
  generalize ps[j] = z at *
  replace hspec := Lib.hid hspec
  go_wp2_with (first
    | (go_at_call 57; refine (Tryz.within2 _ _ _ _).mono ?_; rintro e w' ⟨rfl, rfl⟩))
  all_goals
    go_ret2
    rw [hspec.out]
    exact ⟨rfl, hw0⟩

set_option maxRecDepth 20000 in
set_option maxHeartbeats 1000000 in
theorem Tryz.leaf2out (cs : List Col) (ps : List Int) (cad pad : Option Addr) (cc pc N : Nat) (op nn vk vn : Int) (vs src name : ByteArray) (dist : Bool) (ea : Value) (w : World) (_hcs : ColsAt w N cad cs) (_hps : IntsAt w N pad ps) (_hN : N ≤ w.heap.size) (_hcl : cs.length ≤ 1000000) (hpl : ps.length ≤ 1000000) (_hvs : vs.size ≤ 1000000) (hin : inB nn 0 ((ps.length : Int) - 1) = false) :
    Calls Tryz.prog 127 #[Node.v ⟨2, op, nn, vk, vn, vs, src, name, dist⟩ ea, .slice cad cs.length cc, .slice pad ps.length pc, .bool true] w fun e w' => e = .returned (.tuple #[.int .i64 (leafU cs ps ⟨2, op, nn, vk, vn, vs, src, name, dist⟩).1, .int .i64 (leafU cs ps ⟨2, op, nn, vk, vn, vs, src, name, dist⟩).2]) ∧ Below w.heap.size w w' := by
  have hw0 : Below w.heap.size w (w.alloc (.cells (Node.cells ⟨2, op, nn, vk, vn, vs, src, name, dist⟩ ea) 57)) := (Below.refl _ _).alloc (Nat.le_refl _) _
  have hB0 : Box (w.alloc (.cells (Node.cells ⟨2, op, nn, vk, vn, vs, src, name, dist⟩ ea) 57)) w.heap.size ⟨2, op, nn, vk, vn, vs, src, name, dist⟩ ea := Box.new _ _ _
  have hs0 := ex_alloc_size w (.cells (Node.cells ⟨2, op, nn, vk, vn, vs, src, name, dist⟩ ea) 57)
  unfold Node.v
  go_enter Tryz.func127, Tryz.ntmps127
  go_upto_region 1 with fail
  generalize w.alloc (.cells (Node.cells ⟨2, op, nn, vk, vn, vs, src, name, dist⟩ ea) 57) = W1 at hB0 hw0 hs0 ⊢
  replace hs0 : w.heap.size < W1.heap.size := by omega
  obtain ⟨c0, c1, c2, c3, c4, c5, c6, c7, c8, c9, c10, c11, c12⟩ := hB0.is
  simp only at c0 c1 c2 c3 c4 c5 c6 c7 c8
  go_wp2_with (first
    | (go_at_call 57; refine (Tryz.within2 _ _ _ _).mono ?_; rintro e w' ⟨rfl, rfl⟩))
  all_goals
    go_ret2
    refine ⟨?_, hw0⟩
    unfold leafU
    first | (simp [*]; done) | (by_cases hf : faultN 0 vk vn vs = 0 <;> simp_all; done) | grind

set_option maxRecDepth 20000 in
set_option maxHeartbeats 1000000 in
theorem Tryz.leaf3in (cs : List Col) (ps : List Int) (cad pad : Option Addr) (cc pc N : Nat) (op nn vk vn : Int) (vs src name : ByteArray) (dist : Bool) (ea : Value) (w : World) (hcs : ColsAt w N cad cs) (_hps : IntsAt w N pad ps) (hN : N ≤ w.heap.size) (hcl : cs.length ≤ 1000000) (_hpl : ps.length ≤ 1000000) (_hvs : vs.size ≤ 1000000) (j : Nat) (hj : j < cs.length) (hci : colAt src name 0 cs = j) :
    Calls Tryz.prog 127 #[Node.v ⟨3, op, nn, vk, vn, vs, src, name, dist⟩ ea, .slice cad cs.length cc, .slice pad ps.length pc, .bool true] w fun e w' => e = .returned (.tuple #[.int .i64 (leafU cs ps ⟨3, op, nn, vk, vn, vs, src, name, dist⟩).1, .int .i64 (leafU cs ps ⟨3, op, nn, vk, vn, vs, src, name, dist⟩).2]) ∧ Below w.heap.size w w' := by
  have hw0 : Below w.heap.size w (w.alloc (.cells (Node.cells ⟨3, op, nn, vk, vn, vs, src, name, dist⟩ ea) 57)) := (Below.refl _ _).alloc (Nat.le_refl _) _
  have hB0 : Box (w.alloc (.cells (Node.cells ⟨3, op, nn, vk, vn, vs, src, name, dist⟩ ea) 57)) w.heap.size ⟨3, op, nn, vk, vn, vs, src, name, dist⟩ ea := Box.new _ _ _
  have hs0 := ex_alloc_size w (.cells (Node.cells ⟨3, op, nn, vk, vn, vs, src, name, dist⟩ ea) 57)
  unfold Node.v
  go_enter Tryz.func127, Tryz.ntmps127
  go_upto_region 1 with fail
  generalize w.alloc (.cells (Node.cells ⟨3, op, nn, vk, vn, vs, src, name, dist⟩ ea) 57) = W1 at hB0 hw0 hs0 ⊢
  replace hs0 : w.heap.size < W1.heap.size := by omega
  obtain ⟨c0, c1, c2, c3, c4, c5, c6, c7, c8, c9, c10, c11, c12⟩ := hB0.is
  simp only at c0 c1 c2 c3 c4 c5 c6 c7 c8
  obtain ⟨p, o, rfl, hp, d0, d1, d2⟩ := (hcs.below (hw0.mono hN)) j hj
  have hfo := Tryz.found cs (some ⟨p, o, none⟩) cc src name N W1 (hcs.below (hw0.mono hN)) (by omega) hcl
  have hspec : leafU cs ps ⟨3, op, nn, vk, vn, vs, src, name, dist⟩ = (cs[j].kind, 0) := by unfold leafU; simp [hci, hj]
  rw [hci] at hfo
  replace hspec := Lib.hid hspec
  clear hci
  have hj2 : (j : Int) < cs.length := by omega
  have hj3 : (0 : Int) ≤ (j : Int) := by omega
  replace hspec := hspec.out
  generalize cs[j] = z at *
  replace hspec := Lib.hid hspec
  go_wp2_with (first
    | (go_at_call 165; refine hfo.mono ?_; rintro e w2 ⟨rfl, hb2⟩; have hB2 := hB0.next hb2; have hw2 := below_next hw0 hb2; clear hB0; have hB0 := hB2; clear hB2; obtain ⟨c0, c1, c2, c3, c4, c5, c6, c7, c8, c9, c10, c11, c12⟩ := hB0.is; simp only at c0 c1 c2 c3 c4 c5 c6 c7 c8; have d2A := (hb2.cell (p := ⟨p, o + j * 3 + 2, none⟩) (show p < W1.heap.size by omega)).trans d2))
  all_goals
    go_ret2
    rw [hspec.out]
    exact ⟨rfl, hw2⟩

set_option maxRecDepth 20000 in
set_option maxHeartbeats 1000000 in
theorem Tryz.leaf3out (cs : List Col) (ps : List Int) (cad pad : Option Addr) (cc pc N : Nat) (op nn vk vn : Int) (vs src name : ByteArray) (dist : Bool) (ea : Value) (w : World) (hcs : ColsAt w N cad cs) (_hps : IntsAt w N pad ps) (hN : N ≤ w.heap.size) (hcl : cs.length ≤ 1000000) (_hpl : ps.length ≤ 1000000) (_hvs : vs.size ≤ 1000000) (hci : colAt src name 0 cs = -1) :
    Calls Tryz.prog 127 #[Node.v ⟨3, op, nn, vk, vn, vs, src, name, dist⟩ ea, .slice cad cs.length cc, .slice pad ps.length pc, .bool true] w fun e w' => e = .returned (.tuple #[.int .i64 (leafU cs ps ⟨3, op, nn, vk, vn, vs, src, name, dist⟩).1, .int .i64 (leafU cs ps ⟨3, op, nn, vk, vn, vs, src, name, dist⟩).2]) ∧ Below w.heap.size w w' := by
  have hw0 : Below w.heap.size w (w.alloc (.cells (Node.cells ⟨3, op, nn, vk, vn, vs, src, name, dist⟩ ea) 57)) := (Below.refl _ _).alloc (Nat.le_refl _) _
  have hB0 : Box (w.alloc (.cells (Node.cells ⟨3, op, nn, vk, vn, vs, src, name, dist⟩ ea) 57)) w.heap.size ⟨3, op, nn, vk, vn, vs, src, name, dist⟩ ea := Box.new _ _ _
  have hs0 := ex_alloc_size w (.cells (Node.cells ⟨3, op, nn, vk, vn, vs, src, name, dist⟩ ea) 57)
  unfold Node.v
  go_enter Tryz.func127, Tryz.ntmps127
  go_upto_region 1 with fail
  generalize w.alloc (.cells (Node.cells ⟨3, op, nn, vk, vn, vs, src, name, dist⟩ ea) 57) = W1 at hB0 hw0 hs0 ⊢
  replace hs0 : w.heap.size < W1.heap.size := by omega
  obtain ⟨c0, c1, c2, c3, c4, c5, c6, c7, c8, c9, c10, c11, c12⟩ := hB0.is
  simp only at c0 c1 c2 c3 c4 c5 c6 c7 c8
  have hfo := Tryz.found cs cad cc src name N W1 (hcs.below (hw0.mono hN)) (by omega) hcl
  have hspec : leafU cs ps ⟨3, op, nn, vk, vn, vs, src, name, dist⟩ = (0, 5) := by unfold leafU; simp [hci]
  rw [hci] at hfo
  replace hspec := Lib.hid hspec
  clear hci
  go_wp2_with (first
    | (go_at_call 165; refine hfo.mono ?_; rintro e w2 ⟨rfl, hb2⟩; have hB2 := hB0.next hb2; have hw2 := below_next hw0 hb2; clear hB0; have hB0 := hB2; clear hB2; obtain ⟨c0, c1, c2, c3, c4, c5, c6, c7, c8, c9, c10, c11, c12⟩ := hB0.is; simp only at c0 c1 c2 c3 c4 c5 c6 c7 c8))
  all_goals
    go_ret2
    rw [hspec.out]
    exact ⟨rfl, hw2⟩

set_option maxRecDepth 20000 in
set_option maxHeartbeats 1000000 in
theorem Tryz.leaf4 (cs : List Col) (ps : List Int) (cad pad : Option Addr) (cc pc N : Nat) (op nn vk vn : Int) (vs src name : ByteArray) (dist : Bool) (ea : Value) (w : World) (_hcs : ColsAt w N cad cs) (_hps : IntsAt w N pad ps) (_hN : N ≤ w.heap.size) (_hcl : cs.length ≤ 1000000) (_hpl : ps.length ≤ 1000000) (_hvs : vs.size ≤ 1000000) :
    Calls Tryz.prog 127 #[Node.v ⟨4, op, nn, vk, vn, vs, src, name, dist⟩ ea, .slice cad cs.length cc, .slice pad ps.length pc, .bool true] w fun e w' => e = .returned (.tuple #[.int .i64 (leafU cs ps ⟨4, op, nn, vk, vn, vs, src, name, dist⟩).1, .int .i64 (leafU cs ps ⟨4, op, nn, vk, vn, vs, src, name, dist⟩).2]) ∧ Below w.heap.size w w' := by
  have hw0 : Below w.heap.size w (w.alloc (.cells (Node.cells ⟨4, op, nn, vk, vn, vs, src, name, dist⟩ ea) 57)) := (Below.refl _ _).alloc (Nat.le_refl _) _
  have hB0 : Box (w.alloc (.cells (Node.cells ⟨4, op, nn, vk, vn, vs, src, name, dist⟩ ea) 57)) w.heap.size ⟨4, op, nn, vk, vn, vs, src, name, dist⟩ ea := Box.new _ _ _
  have hs0 := ex_alloc_size w (.cells (Node.cells ⟨4, op, nn, vk, vn, vs, src, name, dist⟩ ea) 57)
  unfold Node.v
  go_enter Tryz.func127, Tryz.ntmps127
  go_upto_region 1 with fail
  generalize w.alloc (.cells (Node.cells ⟨4, op, nn, vk, vn, vs, src, name, dist⟩ ea) 57) = W1 at hB0 hw0 hs0 ⊢
  replace hs0 : w.heap.size < W1.heap.size := by omega
  obtain ⟨c0, c1, c2, c3, c4, c5, c6, c7, c8, c9, c10, c11, c12⟩ := hB0.is
  simp only at c0 c1 c2 c3 c4 c5 c6 c7 c8
  go_wp2_with (first
    | (go_at_call 57; refine (Tryz.within2 _ _ _ _).mono ?_; rintro e w' ⟨rfl, rfl⟩))
  all_goals
    go_ret2
    refine ⟨?_, hw0⟩
    unfold leafU
    first | (simp [*]; done) | (by_cases hf : faultN 0 vk vn vs = 0 <;> simp_all; done) | grind

set_option maxRecDepth 20000 in
set_option maxHeartbeats 1000000 in
theorem Tryz.leaf5 (cs : List Col) (ps : List Int) (cad pad : Option Addr) (cc pc N : Nat) (op nn vk vn : Int) (vs src name : ByteArray) (dist : Bool) (ea : Value) (w : World) (_hcs : ColsAt w N cad cs) (_hps : IntsAt w N pad ps) (_hN : N ≤ w.heap.size) (_hcl : cs.length ≤ 1000000) (_hpl : ps.length ≤ 1000000) (_hvs : vs.size ≤ 1000000) :
    Calls Tryz.prog 127 #[Node.v ⟨5, op, nn, vk, vn, vs, src, name, dist⟩ ea, .slice cad cs.length cc, .slice pad ps.length pc, .bool true] w fun e w' => e = .returned (.tuple #[.int .i64 (leafU cs ps ⟨5, op, nn, vk, vn, vs, src, name, dist⟩).1, .int .i64 (leafU cs ps ⟨5, op, nn, vk, vn, vs, src, name, dist⟩).2]) ∧ Below w.heap.size w w' := by
  have hw0 : Below w.heap.size w (w.alloc (.cells (Node.cells ⟨5, op, nn, vk, vn, vs, src, name, dist⟩ ea) 57)) := (Below.refl _ _).alloc (Nat.le_refl _) _
  have hB0 : Box (w.alloc (.cells (Node.cells ⟨5, op, nn, vk, vn, vs, src, name, dist⟩ ea) 57)) w.heap.size ⟨5, op, nn, vk, vn, vs, src, name, dist⟩ ea := Box.new _ _ _
  have hs0 := ex_alloc_size w (.cells (Node.cells ⟨5, op, nn, vk, vn, vs, src, name, dist⟩ ea) 57)
  unfold Node.v
  go_enter Tryz.func127, Tryz.ntmps127
  go_upto_region 1 with fail
  generalize w.alloc (.cells (Node.cells ⟨5, op, nn, vk, vn, vs, src, name, dist⟩ ea) 57) = W1 at hB0 hw0 hs0 ⊢
  replace hs0 : w.heap.size < W1.heap.size := by omega
  obtain ⟨c0, c1, c2, c3, c4, c5, c6, c7, c8, c9, c10, c11, c12⟩ := hB0.is
  simp only at c0 c1 c2 c3 c4 c5 c6 c7 c8
  go_wp2_with (first
    | (fail))
  all_goals
    go_ret2
    exact ⟨rfl, hw0⟩

set_option maxRecDepth 20000 in
set_option maxHeartbeats 1000000 in
theorem Tryz.leaf6 (cs : List Col) (ps : List Int) (cad pad : Option Addr) (cc pc N : Nat) (op nn vk vn : Int) (vs src name : ByteArray) (dist : Bool) (ea : Value) (w : World) (_hcs : ColsAt w N cad cs) (_hps : IntsAt w N pad ps) (_hN : N ≤ w.heap.size) (_hcl : cs.length ≤ 1000000) (_hpl : ps.length ≤ 1000000) (_hvs : vs.size ≤ 1000000) :
    Calls Tryz.prog 127 #[Node.v ⟨6, op, nn, vk, vn, vs, src, name, dist⟩ ea, .slice cad cs.length cc, .slice pad ps.length pc, .bool true] w fun e w' => e = .returned (.tuple #[.int .i64 (leafU cs ps ⟨6, op, nn, vk, vn, vs, src, name, dist⟩).1, .int .i64 (leafU cs ps ⟨6, op, nn, vk, vn, vs, src, name, dist⟩).2]) ∧ Below w.heap.size w w' := by
  have hw0 : Below w.heap.size w (w.alloc (.cells (Node.cells ⟨6, op, nn, vk, vn, vs, src, name, dist⟩ ea) 57)) := (Below.refl _ _).alloc (Nat.le_refl _) _
  have hB0 : Box (w.alloc (.cells (Node.cells ⟨6, op, nn, vk, vn, vs, src, name, dist⟩ ea) 57)) w.heap.size ⟨6, op, nn, vk, vn, vs, src, name, dist⟩ ea := Box.new _ _ _
  have hs0 := ex_alloc_size w (.cells (Node.cells ⟨6, op, nn, vk, vn, vs, src, name, dist⟩ ea) 57)
  unfold Node.v
  go_enter Tryz.func127, Tryz.ntmps127
  go_upto_region 1 with fail
  generalize w.alloc (.cells (Node.cells ⟨6, op, nn, vk, vn, vs, src, name, dist⟩ ea) 57) = W1 at hB0 hw0 hs0 ⊢
  replace hs0 : w.heap.size < W1.heap.size := by omega
  obtain ⟨c0, c1, c2, c3, c4, c5, c6, c7, c8, c9, c10, c11, c12⟩ := hB0.is
  simp only at c0 c1 c2 c3 c4 c5 c6 c7 c8
  go_wp2_with (first
    | (fail))
  all_goals
    go_ret2
    exact ⟨rfl, hw0⟩

set_option maxRecDepth 20000 in
set_option maxHeartbeats 1000000 in
theorem Tryz.leaf1f (cs : List Col) (ps : List Int) (cad pad : Option Addr) (cc pc N : Nat) (op nn vk vn : Int) (vs src name : ByteArray) (dist : Bool) (ea : Value) (w : World) (_hcs : ColsAt w N cad cs) (_hps : IntsAt w N pad ps) (_hN : N ≤ w.heap.size) (_hcl : cs.length ≤ 1000000) (_hpl : ps.length ≤ 1000000) (hvs : vs.size ≤ 1000000) :
    Calls Tryz.prog 127 #[Node.v ⟨1, op, nn, vk, vn, vs, src, name, dist⟩ ea, .slice cad cs.length cc, .slice pad ps.length pc, .bool false] w fun e w' => e = .returned (.tuple #[.int .i64 (leafF ⟨1, op, nn, vk, vn, vs, src, name, dist⟩).1, .int .i64 (leafF ⟨1, op, nn, vk, vn, vs, src, name, dist⟩).2]) ∧ Below w.heap.size w w' := by
  have hw0 : Below w.heap.size w (w.alloc (.cells (Node.cells ⟨1, op, nn, vk, vn, vs, src, name, dist⟩ ea) 57)) := (Below.refl _ _).alloc (Nat.le_refl _) _
  have hB0 : Box (w.alloc (.cells (Node.cells ⟨1, op, nn, vk, vn, vs, src, name, dist⟩ ea) 57)) w.heap.size ⟨1, op, nn, vk, vn, vs, src, name, dist⟩ ea := Box.new _ _ _
  have hs0 := ex_alloc_size w (.cells (Node.cells ⟨1, op, nn, vk, vn, vs, src, name, dist⟩ ea) 57)
  have hvs2 : vs.size ≤ 9223372036854775807 := by omega
  unfold Node.v
  go_enter Tryz.func127, Tryz.ntmps127
  go_upto_region 1 with fail
  generalize w.alloc (.cells (Node.cells ⟨1, op, nn, vk, vn, vs, src, name, dist⟩ ea) 57) = W1 at hB0 hw0 hs0 ⊢
  replace hs0 : w.heap.size < W1.heap.size := by omega
  obtain ⟨c0, c1, c2, c3, c4, c5, c6, c7, c8, c9, c10, c11, c12⟩ := hB0.is
  simp only at c0 c1 c2 c3 c4 c5 c6 c7 c8
  go_wp2_with (first
    | (go_at_call 76; refine (Tryz.anyFault _ _ _ hvs2 _).mono ?_; rintro e w2 ⟨rfl, hb2⟩; have hB2 := hB0.next hb2; have hw2 := below_next hw0 hb2; clear hb2 hB0 hw0; have hB0 := hB2; have hw0 := hw2; clear hB2 hw2; obtain ⟨c0, c1, c2, c3, c4, c5, c6, c7, c8, c9, c10, c11, c12⟩ := hB0.is; simp only at c0 c1 c2 c3 c4 c5 c6 c7 c8))
  all_goals
    go_ret2
    refine ⟨?_, hw0⟩
    unfold leafF
    first | (simp [*]; done) | (by_cases hf : faultN 0 vk vn vs = 0 <;> simp_all; done) | grind

set_option maxRecDepth 20000 in
set_option maxHeartbeats 1000000 in
theorem Tryz.leaf2f (cs : List Col) (ps : List Int) (cad pad : Option Addr) (cc pc N : Nat) (op nn vk vn : Int) (vs src name : ByteArray) (dist : Bool) (ea : Value) (w : World) (_hcs : ColsAt w N cad cs) (_hps : IntsAt w N pad ps) (_hN : N ≤ w.heap.size) (_hcl : cs.length ≤ 1000000) (_hpl : ps.length ≤ 1000000) (_hvs : vs.size ≤ 1000000) :
    Calls Tryz.prog 127 #[Node.v ⟨2, op, nn, vk, vn, vs, src, name, dist⟩ ea, .slice cad cs.length cc, .slice pad ps.length pc, .bool false] w fun e w' => e = .returned (.tuple #[.int .i64 (leafF ⟨2, op, nn, vk, vn, vs, src, name, dist⟩).1, .int .i64 (leafF ⟨2, op, nn, vk, vn, vs, src, name, dist⟩).2]) ∧ Below w.heap.size w w' := by
  have hw0 : Below w.heap.size w (w.alloc (.cells (Node.cells ⟨2, op, nn, vk, vn, vs, src, name, dist⟩ ea) 57)) := (Below.refl _ _).alloc (Nat.le_refl _) _
  have hB0 : Box (w.alloc (.cells (Node.cells ⟨2, op, nn, vk, vn, vs, src, name, dist⟩ ea) 57)) w.heap.size ⟨2, op, nn, vk, vn, vs, src, name, dist⟩ ea := Box.new _ _ _
  have hs0 := ex_alloc_size w (.cells (Node.cells ⟨2, op, nn, vk, vn, vs, src, name, dist⟩ ea) 57)
  unfold Node.v
  go_enter Tryz.func127, Tryz.ntmps127
  go_upto_region 1 with fail
  generalize w.alloc (.cells (Node.cells ⟨2, op, nn, vk, vn, vs, src, name, dist⟩ ea) 57) = W1 at hB0 hw0 hs0 ⊢
  replace hs0 : w.heap.size < W1.heap.size := by omega
  obtain ⟨c0, c1, c2, c3, c4, c5, c6, c7, c8, c9, c10, c11, c12⟩ := hB0.is
  simp only at c0 c1 c2 c3 c4 c5 c6 c7 c8
  go_wp2_with (first
    | (go_at_call 57; refine (Tryz.within2 _ _ _ _).mono ?_; rintro e w' ⟨rfl, rfl⟩))
  all_goals
    go_ret2
    refine ⟨?_, hw0⟩
    unfold leafF
    first | (simp [*]; done) | (by_cases hf : faultN 0 vk vn vs = 0 <;> simp_all; done) | grind

set_option maxRecDepth 20000 in
set_option maxHeartbeats 1000000 in
theorem Tryz.leaf4f (cs : List Col) (ps : List Int) (cad pad : Option Addr) (cc pc N : Nat) (op nn vk vn : Int) (vs src name : ByteArray) (dist : Bool) (ea : Value) (w : World) (_hcs : ColsAt w N cad cs) (_hps : IntsAt w N pad ps) (_hN : N ≤ w.heap.size) (_hcl : cs.length ≤ 1000000) (_hpl : ps.length ≤ 1000000) (_hvs : vs.size ≤ 1000000) :
    Calls Tryz.prog 127 #[Node.v ⟨4, op, nn, vk, vn, vs, src, name, dist⟩ ea, .slice cad cs.length cc, .slice pad ps.length pc, .bool false] w fun e w' => e = .returned (.tuple #[.int .i64 (leafF ⟨4, op, nn, vk, vn, vs, src, name, dist⟩).1, .int .i64 (leafF ⟨4, op, nn, vk, vn, vs, src, name, dist⟩).2]) ∧ Below w.heap.size w w' := by
  have hw0 : Below w.heap.size w (w.alloc (.cells (Node.cells ⟨4, op, nn, vk, vn, vs, src, name, dist⟩ ea) 57)) := (Below.refl _ _).alloc (Nat.le_refl _) _
  have hB0 : Box (w.alloc (.cells (Node.cells ⟨4, op, nn, vk, vn, vs, src, name, dist⟩ ea) 57)) w.heap.size ⟨4, op, nn, vk, vn, vs, src, name, dist⟩ ea := Box.new _ _ _
  have hs0 := ex_alloc_size w (.cells (Node.cells ⟨4, op, nn, vk, vn, vs, src, name, dist⟩ ea) 57)
  unfold Node.v
  go_enter Tryz.func127, Tryz.ntmps127
  go_upto_region 1 with fail
  generalize w.alloc (.cells (Node.cells ⟨4, op, nn, vk, vn, vs, src, name, dist⟩ ea) 57) = W1 at hB0 hw0 hs0 ⊢
  replace hs0 : w.heap.size < W1.heap.size := by omega
  obtain ⟨c0, c1, c2, c3, c4, c5, c6, c7, c8, c9, c10, c11, c12⟩ := hB0.is
  simp only at c0 c1 c2 c3 c4 c5 c6 c7 c8
  go_wp2_with (first
    | (go_at_call 57; refine (Tryz.within2 _ _ _ _).mono ?_; rintro e w' ⟨rfl, rfl⟩))
  all_goals
    go_ret2
    refine ⟨?_, hw0⟩
    unfold leafF
    first | (simp [*]; done) | (by_cases hf : faultN 0 vk vn vs = 0 <;> simp_all; done) | grind

set_option maxRecDepth 20000 in
set_option maxHeartbeats 1000000 in
theorem Tryz.leaf5f (cs : List Col) (ps : List Int) (cad pad : Option Addr) (cc pc N : Nat) (op nn vk vn : Int) (vs src name : ByteArray) (dist : Bool) (ea : Value) (w : World) (_hcs : ColsAt w N cad cs) (_hps : IntsAt w N pad ps) (_hN : N ≤ w.heap.size) (_hcl : cs.length ≤ 1000000) (_hpl : ps.length ≤ 1000000) (_hvs : vs.size ≤ 1000000) :
    Calls Tryz.prog 127 #[Node.v ⟨5, op, nn, vk, vn, vs, src, name, dist⟩ ea, .slice cad cs.length cc, .slice pad ps.length pc, .bool false] w fun e w' => e = .returned (.tuple #[.int .i64 (leafF ⟨5, op, nn, vk, vn, vs, src, name, dist⟩).1, .int .i64 (leafF ⟨5, op, nn, vk, vn, vs, src, name, dist⟩).2]) ∧ Below w.heap.size w w' := by
  have hw0 : Below w.heap.size w (w.alloc (.cells (Node.cells ⟨5, op, nn, vk, vn, vs, src, name, dist⟩ ea) 57)) := (Below.refl _ _).alloc (Nat.le_refl _) _
  have hB0 : Box (w.alloc (.cells (Node.cells ⟨5, op, nn, vk, vn, vs, src, name, dist⟩ ea) 57)) w.heap.size ⟨5, op, nn, vk, vn, vs, src, name, dist⟩ ea := Box.new _ _ _
  have hs0 := ex_alloc_size w (.cells (Node.cells ⟨5, op, nn, vk, vn, vs, src, name, dist⟩ ea) 57)
  unfold Node.v
  go_enter Tryz.func127, Tryz.ntmps127
  go_upto_region 1 with fail
  generalize w.alloc (.cells (Node.cells ⟨5, op, nn, vk, vn, vs, src, name, dist⟩ ea) 57) = W1 at hB0 hw0 hs0 ⊢
  replace hs0 : w.heap.size < W1.heap.size := by omega
  obtain ⟨c0, c1, c2, c3, c4, c5, c6, c7, c8, c9, c10, c11, c12⟩ := hB0.is
  simp only at c0 c1 c2 c3 c4 c5 c6 c7 c8
  go_wp2_with (first
    | (fail))
  all_goals
    go_ret2
    exact ⟨rfl, hw0⟩

set_option maxRecDepth 20000 in
set_option maxHeartbeats 1000000 in
theorem Tryz.leaf6f (cs : List Col) (ps : List Int) (cad pad : Option Addr) (cc pc N : Nat) (op nn vk vn : Int) (vs src name : ByteArray) (dist : Bool) (ea : Value) (w : World) (_hcs : ColsAt w N cad cs) (_hps : IntsAt w N pad ps) (_hN : N ≤ w.heap.size) (_hcl : cs.length ≤ 1000000) (_hpl : ps.length ≤ 1000000) (_hvs : vs.size ≤ 1000000) :
    Calls Tryz.prog 127 #[Node.v ⟨6, op, nn, vk, vn, vs, src, name, dist⟩ ea, .slice cad cs.length cc, .slice pad ps.length pc, .bool false] w fun e w' => e = .returned (.tuple #[.int .i64 (leafF ⟨6, op, nn, vk, vn, vs, src, name, dist⟩).1, .int .i64 (leafF ⟨6, op, nn, vk, vn, vs, src, name, dist⟩).2]) ∧ Below w.heap.size w w' := by
  have hw0 : Below w.heap.size w (w.alloc (.cells (Node.cells ⟨6, op, nn, vk, vn, vs, src, name, dist⟩ ea) 57)) := (Below.refl _ _).alloc (Nat.le_refl _) _
  have hB0 : Box (w.alloc (.cells (Node.cells ⟨6, op, nn, vk, vn, vs, src, name, dist⟩ ea) 57)) w.heap.size ⟨6, op, nn, vk, vn, vs, src, name, dist⟩ ea := Box.new _ _ _
  have hs0 := ex_alloc_size w (.cells (Node.cells ⟨6, op, nn, vk, vn, vs, src, name, dist⟩ ea) 57)
  unfold Node.v
  go_enter Tryz.func127, Tryz.ntmps127
  go_upto_region 1 with fail
  generalize w.alloc (.cells (Node.cells ⟨6, op, nn, vk, vn, vs, src, name, dist⟩ ea) 57) = W1 at hB0 hw0 hs0 ⊢
  replace hs0 : w.heap.size < W1.heap.size := by omega
  obtain ⟨c0, c1, c2, c3, c4, c5, c6, c7, c8, c9, c10, c11, c12⟩ := hB0.is
  simp only at c0 c1 c2 c3 c4 c5 c6 c7 c8
  go_wp2_with (first
    | (fail))
  all_goals
    go_ret2
    exact ⟨rfl, hw0⟩

theorem Tryz.leafT (cs : List Col) (ps : List Int) (cad pad : Option Addr) (cc pc N : Nat) (x : Node) (ea : Value) (w : World) (hcs : ColsAt w N cad cs) (hps : IntsAt w N pad ps) (hN : N ≤ w.heap.size) (hcl : cs.length ≤ 1000000) (hpl : ps.length ≤ 1000000) (hx : x.ok) (hin : inB x.k 1 6 = true) :
    Calls Tryz.prog 127 #[x.v ea, .slice cad cs.length cc, .slice pad ps.length pc, .bool true] w fun e w' => e = .returned (.tuple #[.int .i64 (leafU cs ps x).1, .int .i64 (leafU cs ps x).2]) ∧ Below w.heap.size w w' := by
  obtain ⟨k, op, nn, vk, vn, vs, src, name, dist⟩ := x
  have hvs : vs.size ≤ 1000000 := hx.vs
  have h6 : k = 1 ∨ k = 2 ∨ k = 3 ∨ k = 4 ∨ k = 5 ∨ k = 6 := by unfold inB at hin; simp at hin; omega
  rcases h6 with rfl | rfl | rfl | rfl | rfl | rfl
  · exact Tryz.leaf1 cs ps cad pad cc pc N op nn vk vn vs src name dist ea w hcs hps hN hcl hpl hvs
  · by_cases h : inB nn 0 ((ps.length : Int) - 1) = true
    · obtain ⟨j, rfl⟩ : ∃ j : Nat, nn = (j : Int) := ⟨nn.toNat, by unfold inB at h; simp at h; omega⟩
      exact Tryz.leaf2in cs ps cad pad cc pc N op vk vn vs src name dist ea w hcs hps hN hcl hpl hvs j (by unfold inB at h; simp at h; omega)
    · exact Tryz.leaf2out cs ps cad pad cc pc N op nn vk vn vs src name dist ea w hcs hps hN hcl hpl hvs (by simpa using h)
  · rcases colAt_range src name cs 0 with h | ⟨j, h1, _, h2⟩
    · exact Tryz.leaf3out cs ps cad pad cc pc N op nn vk vn vs src name dist ea w hcs hps hN hcl hpl hvs h
    · exact Tryz.leaf3in cs ps cad pad cc pc N op nn vk vn vs src name dist ea w hcs hps hN hcl hpl hvs j (by omega) h1
  · exact Tryz.leaf4 cs ps cad pad cc pc N op nn vk vn vs src name dist ea w hcs hps hN hcl hpl hvs
  · exact Tryz.leaf5 cs ps cad pad cc pc N op nn vk vn vs src name dist ea w hcs hps hN hcl hpl hvs
  · exact Tryz.leaf6 cs ps cad pad cc pc N op nn vk vn vs src name dist ea w hcs hps hN hcl hpl hvs

theorem Tryz.leafN (cs : List Col) (ps : List Int) (cad pad : Option Addr) (cc pc N : Nat) (x : Node) (ea : Value) (w : World) (hcs : ColsAt w N cad cs) (hps : IntsAt w N pad ps) (hN : N ≤ w.heap.size) (hcl : cs.length ≤ 1000000) (hpl : ps.length ≤ 1000000) (hx : x.ok) (hin : inB x.k 1 6 = true) (h3 : x.k ≠ 3) :
    Calls Tryz.prog 127 #[x.v ea, .slice cad cs.length cc, .slice pad ps.length pc, .bool false] w fun e w' => e = .returned (.tuple #[.int .i64 (leafF x).1, .int .i64 (leafF x).2]) ∧ Below w.heap.size w w' := by
  obtain ⟨k, op, nn, vk, vn, vs, src, name, dist⟩ := x
  have hvs : vs.size ≤ 1000000 := hx.vs
  have h6 : k = 1 ∨ k = 2 ∨ k = 4 ∨ k = 5 ∨ k = 6 := by unfold inB at hin; simp at hin h3; omega
  rcases h6 with rfl | rfl | rfl | rfl | rfl
  · exact Tryz.leaf1f cs ps cad pad cc pc N op nn vk vn vs src name dist ea w hcs hps hN hcl hpl hvs
  · exact Tryz.leaf2f cs ps cad pad cc pc N op nn vk vn vs src name dist ea w hcs hps hN hcl hpl hvs
  · exact Tryz.leaf4f cs ps cad pad cc pc N op nn vk vn vs src name dist ea w hcs hps hN hcl hpl hvs
  · exact Tryz.leaf5f cs ps cad pad cc pc N op nn vk vn vs src name dist ea w hcs hps hN hcl hpl hvs
  · exact Tryz.leaf6f cs ps cad pad cc pc N op nn vk vn vs src name dist ea w hcs hps hN hcl hpl hvs
end Go.Proofs
