/- Facts on all functions of the program, 34 at a time: what each leads to, names, reads; what the law reaches. No condition. -/
import Derived.Test.YtpmjkpdkkckoaaaGreatDoorProg
import Derived.KernelRfl
import GoSem.ClaimFn
import GoSem.ClaimGoes
namespace Go.Proofs.Big
open Go

/-- All lists but the last are so long. -/
def okC {α : Type} (c : Nat) : List (List α) → Bool
  | [] => true
  | [l] => decide (l.length ≤ c)
  | l :: l2 :: ls => l.length == c && okC c (l2 :: ls)

def look {α : Type} (TT : List (List α)) (c f : Nat) : Option α := (TT[f / c]?).bind (·[f % c]?)

theorem flat_get {α : Type} {c : Nat} (hc : 0 < c) : ∀ (TT : List (List α)) (f : Nat), okC c TT = true → TT.flatten[f]? = look TT c f
  | [], f, _ => by simp [look]
  | [l], f, h => by
    have h : l.length ≤ c := of_decide_eq_true h
    unfold look
    rw [List.flatten_cons, List.flatten_nil, List.append_nil]
    by_cases hf : f < c
    · rw [Nat.div_eq_of_lt hf, Nat.mod_eq_of_lt hf]
      rfl
    · have h1 : 1 ≤ f / c := (Nat.one_le_div_iff hc).2 (by omega)
      rw [List.getElem?_eq_none (by omega), List.getElem?_eq_none (show [l].length ≤ f / c from h1)]
      rfl
  | l :: l2 :: ls, f, h => by
    have h : l.length = c ∧ okC c (l2 :: ls) = true := by
      unfold okC at h
      rw [Bool.and_eq_true, beq_iff_eq] at h
      exact h
    rw [List.flatten_cons]
    by_cases hf : f < c
    · rw [List.getElem?_append_left (by omega)]
      unfold look
      rw [Nat.div_eq_of_lt hf, Nat.mod_eq_of_lt hf]
      rfl
    · obtain ⟨d, rfl⟩ : ∃ d, f = d + c := ⟨f - c, by omega⟩
      rw [List.getElem?_append_right (by omega), h.1, Nat.add_sub_cancel, flat_get hc (l2 :: ls) d h.2]
      unfold look
      rw [Nat.add_div_right d hc, Nat.add_mod_right]
      rfl

def viaT (leads : Nat → List Nat) : Nat → List Nat → List Nat → List Nat
  | 0, _, seen => seen.reverse
  | _ + 1, [], seen => seen.reverse
  | n + 1, f :: todo, seen => if seen.contains f then viaT leads n todo seen else viaT leads n (leads f ++ todo) (f :: seen)

theorem via_eq (P : Program) (leads : Nat → List Nat) (h : ∀ f : Nat, (P.funcs[f]?).elim [] P.leadsTo = leads f) : ∀ (n : Nat) (todo seen : List Nat), P.closureVia n todo seen = viaT leads n todo seen
  | 0, todo, seen => by unfold Program.closureVia viaT; rfl
  | n + 1, [], seen => by unfold Program.closureVia viaT; rfl
  | n + 1, f :: todo, seen => by
    unfold Program.closureVia viaT
    rw [h f, via_eq P leads h n todo seen, via_eq P leads h n (leads f ++ todo) (f :: seen)]

def fastT (leads : Nat → List Nat) : Nat → List Nat → Nat → List Nat → List Nat
  | 0, _, _, seen => seen.reverse
  | _ + 1, [], _, seen => seen.reverse
  | n + 1, f :: todo, m, seen => bif m.testBit f then fastT leads n todo m seen else fastT leads n (leads f ++ todo) (m ||| 1 <<< f) (f :: seen)

theorem fast_eq (leads : Nat → List Nat) : ∀ (n : Nat) (todo : List Nat) (m : Nat) (seen : List Nat), (∀ f, m.testBit f = seen.contains f) → viaT leads n todo seen = fastT leads n todo m seen
  | 0, _, _, _, _ => rfl
  | n + 1, [], _, _, _ => rfl
  | n + 1, f :: todo, m, seen, h => by
    unfold viaT fastT
    rw [h f]
    cases hc : seen.contains f with
    | true => exact fast_eq leads n todo m seen h
    | false =>
      refine fast_eq leads n (leads f ++ todo) _ (f :: seen) fun g => ?_
      rw [Nat.testBit_or, h g, Nat.one_shiftLeft, Nat.testBit_two_pow, List.contains_cons, Bool.or_comm]
      congr 1
      by_cases e : f = g
      · subst e; simp
      · have e2 : ¬ g = f := fun h => e h.symm
        simp [e, e2]
end Go.Proofs.Big
namespace Go.Proofs.Big
open Go
set_option maxRecDepth 100000

noncomputable def fs0 : List Func := [Tryz.f0, Tryz.f1, Tryz.f2, Tryz.f3, Tryz.f4, Tryz.f5, Tryz.f6, Tryz.f7, Tryz.f8, Tryz.f9, Tryz.f10, Tryz.f11, Tryz.f12, Tryz.f13, Tryz.f14, Tryz.f15, Tryz.f16, Tryz.f17, Tryz.f18, Tryz.f19, Tryz.f20, Tryz.f21, Tryz.f22, Tryz.f23, Tryz.f24, Tryz.f25, Tryz.f26, Tryz.f27, Tryz.f28, Tryz.f29, Tryz.f30, Tryz.f31, Tryz.f32, Tryz.f33]
noncomputable def fs1 : List Func := [Tryz.f34, Tryz.f35, Tryz.f36, Tryz.f37, Tryz.f38, Tryz.f39, Tryz.f40, Tryz.f41, Tryz.f42, Tryz.f43, Tryz.f44, Tryz.f45, Tryz.f46, Tryz.f47, Tryz.f48, Tryz.f49, Tryz.f50, Tryz.f51, Tryz.f52, Tryz.f53, Tryz.f54, Tryz.f55, Tryz.f56, Tryz.f57, Tryz.f58, Tryz.f59, Tryz.f60, Tryz.f61, Tryz.f62, Tryz.f63, Tryz.f64, Tryz.f65, Tryz.f66, Tryz.f67]
noncomputable def fs2 : List Func := [Tryz.f68, Tryz.f69, Tryz.f70, Tryz.f71, Tryz.f72, Tryz.f73, Tryz.f74, Tryz.f75, Tryz.f76, Tryz.f77, Tryz.f78, Tryz.f79, Tryz.f80, Tryz.f81, Tryz.f82, Tryz.f83, Tryz.f84, Tryz.f85, Tryz.f86, Tryz.f87, Tryz.f88, Tryz.f89, Tryz.f90, Tryz.f91, Tryz.f92, Tryz.f93, Tryz.f94, Tryz.f95, Tryz.f96, Tryz.f97, Tryz.f98, Tryz.f99, Tryz.f100, Tryz.f101]
noncomputable def fs3 : List Func := [Tryz.f102, Tryz.f103, Tryz.f104, Tryz.f105, Tryz.f106, Tryz.f107, Tryz.f108, Tryz.f109, Tryz.f110, Tryz.f111, Tryz.f112, Tryz.f113, Tryz.f114, Tryz.f115, Tryz.f116, Tryz.f117, Tryz.f118, Tryz.f119, Tryz.f120, Tryz.f121, Tryz.f122, Tryz.f123, Tryz.f124, Tryz.f125, Tryz.f126, Tryz.f127, Tryz.f128, Tryz.f129, Tryz.f130, Tryz.f131, Tryz.f132, Tryz.f133, Tryz.f134, Tryz.f135]
noncomputable def fs4 : List Func := [Tryz.f136, Tryz.f137, Tryz.f138, Tryz.f139, Tryz.f140, Tryz.f141, Tryz.f142, Tryz.f143, Tryz.f144, Tryz.f145, Tryz.f146, Tryz.f147, Tryz.f148, Tryz.f149, Tryz.f150, Tryz.f151, Tryz.f152, Tryz.f153, Tryz.f154, Tryz.f155, Tryz.f156, Tryz.f157, Tryz.f158, Tryz.f159, Tryz.f160, Tryz.f161, Tryz.f162, Tryz.f163, Tryz.f164, Tryz.f165, Tryz.f166, Tryz.f167, Tryz.f168, Tryz.f169]
noncomputable def fs5 : List Func := [Tryz.f170, Tryz.f171, Tryz.f172, Tryz.f173, Tryz.f174, Tryz.f175, Tryz.f176, Tryz.f177, Tryz.f178, Tryz.f179, Tryz.f180, Tryz.f181, Tryz.f182, Tryz.f183, Tryz.f184, Tryz.f185, Tryz.f186, Tryz.f187, Tryz.f188, Tryz.f189, Tryz.f190, Tryz.f191, Tryz.f192, Tryz.f193, Tryz.f194, Tryz.f195, Tryz.f196, Tryz.f197, Tryz.f198, Tryz.f199, Tryz.f200, Tryz.f201, Tryz.f202, Tryz.f203]
noncomputable def fs6 : List Func := [Tryz.f204, Tryz.f205, Tryz.f206, Tryz.f207, Tryz.f208, Tryz.f209, Tryz.f210, Tryz.f211, Tryz.f212, Tryz.f213, Tryz.f214, Tryz.f215, Tryz.f216, Tryz.f217, Tryz.f218, Tryz.f219, Tryz.f220, Tryz.f221, Tryz.f222, Tryz.f223, Tryz.f224, Tryz.f225, Tryz.f226, Tryz.f227, Tryz.f228, Tryz.f229, Tryz.f230, Tryz.f231, Tryz.f232, Tryz.f233, Tryz.f234, Tryz.f235, Tryz.f236, Tryz.f237]
noncomputable def fs7 : List Func := [Tryz.f238, Tryz.f239, Tryz.f240, Tryz.f241, Tryz.f242, Tryz.f243, Tryz.f244, Tryz.f245, Tryz.f246, Tryz.f247, Tryz.f248, Tryz.f249, Tryz.f250, Tryz.f251, Tryz.f252, Tryz.f253, Tryz.f254, Tryz.f255, Tryz.f256, Tryz.f257, Tryz.f258, Tryz.f259, Tryz.f260, Tryz.f261, Tryz.f262, Tryz.f263, Tryz.f264, Tryz.f265, Tryz.f266, Tryz.f267, Tryz.f268, Tryz.f269, Tryz.f270, Tryz.f271]
noncomputable def fs8 : List Func := [Tryz.f272, Tryz.f273, Tryz.f274, Tryz.f275, Tryz.f276, Tryz.f277, Tryz.f278, Tryz.f279, Tryz.f280, Tryz.f281, Tryz.f282, Tryz.f283, Tryz.f284, Tryz.f285, Tryz.f286, Tryz.f287, Tryz.f288, Tryz.f289, Tryz.f290, Tryz.f291, Tryz.f292, Tryz.f293, Tryz.f294, Tryz.f295, Tryz.f296, Tryz.f297, Tryz.f298, Tryz.f299, Tryz.f300, Tryz.f301, Tryz.f302, Tryz.f303, Tryz.f304, Tryz.f305]
noncomputable def fs9 : List Func := [Tryz.f306, Tryz.f307, Tryz.f308, Tryz.f309, Tryz.f310, Tryz.f311, Tryz.f312, Tryz.f313, Tryz.f314, Tryz.f315, Tryz.f316, Tryz.f317, Tryz.f318, Tryz.f319, Tryz.f320, Tryz.f321, Tryz.f322, Tryz.f323, Tryz.f324, Tryz.f325, Tryz.f326, Tryz.f327, Tryz.f328, Tryz.f329, Tryz.f330, Tryz.f331, Tryz.f332, Tryz.f333, Tryz.f334, Tryz.f335, Tryz.f336, Tryz.f337, Tryz.f338, Tryz.f339]
noncomputable def fs10 : List Func := [Tryz.f340, Tryz.f341, Tryz.f342, Tryz.f343, Tryz.f344, Tryz.f345, Tryz.f346, Tryz.f347, Tryz.f348, Tryz.f349, Tryz.f350, Tryz.f351, Tryz.f352, Tryz.f353, Tryz.f354, Tryz.f355, Tryz.f356, Tryz.f357, Tryz.f358, Tryz.f359, Tryz.f360, Tryz.f361, Tryz.f362, Tryz.f363, Tryz.f364, Tryz.f365, Tryz.f366, Tryz.f367, Tryz.f368, Tryz.f369, Tryz.f370, Tryz.f371, Tryz.f372, Tryz.f373]
noncomputable def fs11 : List Func := [Tryz.f374, Tryz.f375, Tryz.f376, Tryz.f377, Tryz.f378, Tryz.f379, Tryz.f380, Tryz.f381, Tryz.f382, Tryz.f383, Tryz.f384, Tryz.f385, Tryz.f386, Tryz.f387, Tryz.f388, Tryz.f389, Tryz.f390, Tryz.f391, Tryz.f392, Tryz.f393, Tryz.f394, Tryz.f395, Tryz.f396, Tryz.f397, Tryz.f398, Tryz.f399, Tryz.f400, Tryz.f401, Tryz.f402, Tryz.f403, Tryz.f404, Tryz.f405, Tryz.f406, Tryz.f407]
noncomputable def fs12 : List Func := [Tryz.f408, Tryz.f409, Tryz.f410, Tryz.f411, Tryz.f412, Tryz.f413, Tryz.f414, Tryz.f415, Tryz.f416, Tryz.f417, Tryz.f418, Tryz.f419, Tryz.f420, Tryz.f421, Tryz.f422, Tryz.f423, Tryz.f424, Tryz.f425, Tryz.f426, Tryz.f427, Tryz.f428, Tryz.f429, Tryz.f430, Tryz.f431, Tryz.f432, Tryz.f433, Tryz.f434, Tryz.f435, Tryz.f436, Tryz.f437, Tryz.f438, Tryz.f439, Tryz.f440, Tryz.f441]
noncomputable def fs13 : List Func := [Tryz.f442, Tryz.f443, Tryz.f444, Tryz.f445, Tryz.f446, Tryz.f447, Tryz.f448, Tryz.f449, Tryz.f450, Tryz.f451, Tryz.f452, Tryz.f453, Tryz.f454, Tryz.f455, Tryz.f456, Tryz.f457, Tryz.f458, Tryz.f459, Tryz.f460, Tryz.f461, Tryz.f462, Tryz.f463, Tryz.f464, Tryz.f465, Tryz.f466, Tryz.f467, Tryz.f468, Tryz.f469, Tryz.f470, Tryz.f471, Tryz.f472, Tryz.f473, Tryz.f474, Tryz.f475]
noncomputable def fs14 : List Func := [Tryz.f476, Tryz.f477, Tryz.f478, Tryz.f479, Tryz.f480, Tryz.f481, Tryz.f482, Tryz.f483, Tryz.f484, Tryz.f485, Tryz.f486, Tryz.f487, Tryz.f488, Tryz.f489, Tryz.f490, Tryz.f491, Tryz.f492, Tryz.f493, Tryz.f494, Tryz.f495, Tryz.f496, Tryz.f497, Tryz.f498, Tryz.f499, Tryz.f500, Tryz.f501, Tryz.f502, Tryz.f503, Tryz.f504, Tryz.f505, Tryz.f506, Tryz.f507, Tryz.f508, Tryz.f509]
noncomputable def fs15 : List Func := [Tryz.f510, Tryz.f511, Tryz.f512, Tryz.f513, Tryz.f514, Tryz.f515, Tryz.f516, Tryz.f517, Tryz.f518, Tryz.f519, Tryz.f520, Tryz.f521, Tryz.f522, Tryz.f523, Tryz.f524, Tryz.f525, Tryz.f526, Tryz.f527, Tryz.f528, Tryz.f529, Tryz.f530, Tryz.f531, Tryz.f532, Tryz.f533, Tryz.f534, Tryz.f535, Tryz.f536, Tryz.f537, Tryz.f538, Tryz.f539, Tryz.f540, Tryz.f541, Tryz.f542, Tryz.f543]
noncomputable def fs16 : List Func := [Tryz.f544, Tryz.f545, Tryz.f546, Tryz.f547, Tryz.f548, Tryz.f549, Tryz.f550, Tryz.f551, Tryz.f552, Tryz.f553, Tryz.f554, Tryz.f555, Tryz.f556, Tryz.f557, Tryz.f558, Tryz.f559, Tryz.f560, Tryz.f561, Tryz.f562, Tryz.f563, Tryz.f564, Tryz.f565, Tryz.f566, Tryz.f567, Tryz.f568, Tryz.f569, Tryz.f570, Tryz.f571, Tryz.f572, Tryz.f573, Tryz.f574, Tryz.f575, Tryz.f576, Tryz.f577]
noncomputable def fs17 : List Func := [Tryz.f578, Tryz.f579, Tryz.f580, Tryz.f581, Tryz.f582, Tryz.f583, Tryz.f584, Tryz.f585, Tryz.f586, Tryz.f587, Tryz.f588, Tryz.f589, Tryz.f590, Tryz.f591, Tryz.f592, Tryz.f593, Tryz.f594, Tryz.f595, Tryz.f596, Tryz.f597, Tryz.f598, Tryz.f599, Tryz.f600, Tryz.f601, Tryz.f602, Tryz.f603, Tryz.f604, Tryz.f605, Tryz.f606, Tryz.f607, Tryz.f608, Tryz.f609, Tryz.f610, Tryz.f611]
noncomputable def fs18 : List Func := [Tryz.f612, Tryz.f613, Tryz.f614, Tryz.f615, Tryz.f616, Tryz.f617, Tryz.f618, Tryz.f619, Tryz.f620, Tryz.f621, Tryz.f622, Tryz.f623, Tryz.f624, Tryz.f625, Tryz.f626, Tryz.f627, Tryz.f628, Tryz.f629, Tryz.f630, Tryz.f631, Tryz.f632, Tryz.f633, Tryz.f634, Tryz.f635, Tryz.f636, Tryz.f637, Tryz.f638, Tryz.f639, Tryz.f640, Tryz.f641, Tryz.f642, Tryz.f643, Tryz.f644, Tryz.f645]
noncomputable def fs19 : List Func := [Tryz.f646, Tryz.f647, Tryz.f648, Tryz.f649, Tryz.f650, Tryz.f651, Tryz.f652, Tryz.f653, Tryz.f654, Tryz.f655, Tryz.f656, Tryz.f657, Tryz.f658, Tryz.f659, Tryz.f660, Tryz.f661, Tryz.f662, Tryz.f663, Tryz.f664, Tryz.f665, Tryz.f666, Tryz.f667, Tryz.f668, Tryz.f669, Tryz.f670, Tryz.f671, Tryz.f672, Tryz.f673, Tryz.f674, Tryz.f675, Tryz.f676, Tryz.f677, Tryz.f678, Tryz.f679]
noncomputable def fs20 : List Func := [Tryz.f680, Tryz.f681, Tryz.f682, Tryz.f683, Tryz.f684, Tryz.f685, Tryz.f686, Tryz.f687, Tryz.f688, Tryz.f689, Tryz.f690, Tryz.f691, Tryz.f692, Tryz.f693, Tryz.f694, Tryz.f695, Tryz.f696, Tryz.f697, Tryz.f698, Tryz.f699, Tryz.f700, Tryz.f701, Tryz.f702, Tryz.f703, Tryz.f704, Tryz.f705, Tryz.f706, Tryz.f707, Tryz.f708, Tryz.f709, Tryz.f710, Tryz.f711, Tryz.f712, Tryz.f713]
noncomputable def fs21 : List Func := [Tryz.f714, Tryz.f715, Tryz.f716, Tryz.f717, Tryz.f718, Tryz.f719, Tryz.f720, Tryz.f721, Tryz.f722, Tryz.f723, Tryz.f724, Tryz.f725, Tryz.f726, Tryz.f727, Tryz.f728, Tryz.f729, Tryz.f730, Tryz.f731, Tryz.f732, Tryz.f733, Tryz.f734, Tryz.f735, Tryz.f736, Tryz.f737, Tryz.f738, Tryz.f739, Tryz.f740, Tryz.f741, Tryz.f742, Tryz.f743, Tryz.f744, Tryz.f745, Tryz.f746, Tryz.f747]
noncomputable def fs22 : List Func := [Tryz.f748, Tryz.f749, Tryz.f750, Tryz.f751, Tryz.f752, Tryz.f753, Tryz.f754, Tryz.f755, Tryz.f756, Tryz.f757, Tryz.f758, Tryz.f759, Tryz.f760, Tryz.f761, Tryz.f762, Tryz.f763, Tryz.f764, Tryz.f765, Tryz.f766, Tryz.f767, Tryz.f768, Tryz.f769, Tryz.f770, Tryz.f771, Tryz.f772, Tryz.f773, Tryz.f774, Tryz.f775, Tryz.f776, Tryz.f777, Tryz.f778, Tryz.f779, Tryz.f780, Tryz.f781]
noncomputable def fs23 : List Func := [Tryz.f782, Tryz.f783, Tryz.f784, Tryz.f785, Tryz.f786, Tryz.f787, Tryz.f788, Tryz.f789, Tryz.f790, Tryz.f791, Tryz.f792, Tryz.f793, Tryz.f794, Tryz.f795, Tryz.f796, Tryz.f797, Tryz.f798, Tryz.f799, Tryz.f800, Tryz.f801, Tryz.f802, Tryz.f803, Tryz.f804, Tryz.f805, Tryz.f806, Tryz.f807, Tryz.f808, Tryz.f809, Tryz.f810, Tryz.f811, Tryz.f812, Tryz.f813, Tryz.f814, Tryz.f815]
noncomputable def fs24 : List Func := [Tryz.f816, Tryz.f817, Tryz.f818, Tryz.f819, Tryz.f820, Tryz.f821, Tryz.f822, Tryz.f823, Tryz.f824, Tryz.f825, Tryz.f826, Tryz.f827, Tryz.f828, Tryz.f829, Tryz.f830, Tryz.f831, Tryz.f832, Tryz.f833, Tryz.f834, Tryz.f835, Tryz.f836, Tryz.f837, Tryz.f838, Tryz.f839, Tryz.f840, Tryz.f841, Tryz.f842, Tryz.f843, Tryz.f844, Tryz.f845, Tryz.f846, Tryz.f847, Tryz.f848, Tryz.f849]
noncomputable def fs25 : List Func := [Tryz.f850, Tryz.f851, Tryz.f852, Tryz.f853, Tryz.f854, Tryz.f855, Tryz.f856, Tryz.f857, Tryz.f858, Tryz.f859, Tryz.f860, Tryz.f861, Tryz.f862, Tryz.f863, Tryz.f864, Tryz.f865, Tryz.f866, Tryz.f867, Tryz.f868, Tryz.f869, Tryz.f870, Tryz.f871, Tryz.f872, Tryz.f873, Tryz.f874, Tryz.f875, Tryz.f876, Tryz.f877, Tryz.f878, Tryz.f879, Tryz.f880, Tryz.f881, Tryz.f882, Tryz.f883]
noncomputable def fs26 : List Func := [Tryz.f884, Tryz.f885, Tryz.f886, Tryz.f887, Tryz.f888, Tryz.f889, Tryz.f890, Tryz.f891, Tryz.f892, Tryz.f893, Tryz.f894, Tryz.f895, Tryz.f896, Tryz.f897, Tryz.f898, Tryz.f899, Tryz.f900, Tryz.f901, Tryz.f902, Tryz.f903, Tryz.f904, Tryz.f905, Tryz.f906, Tryz.f907, Tryz.f908, Tryz.f909, Tryz.f910, Tryz.f911, Tryz.f912, Tryz.f913, Tryz.f914, Tryz.f915, Tryz.f916, Tryz.f917]
noncomputable def fs27 : List Func := [Tryz.f918, Tryz.f919, Tryz.f920, Tryz.f921, Tryz.f922, Tryz.f923, Tryz.f924, Tryz.f925, Tryz.f926, Tryz.f927, Tryz.f928, Tryz.f929, Tryz.f930, Tryz.f931, Tryz.f932, Tryz.f933, Tryz.f934, Tryz.f935, Tryz.f936, Tryz.f937, Tryz.f938, Tryz.f939, Tryz.f940, Tryz.f941, Tryz.f942, Tryz.f943, Tryz.f944, Tryz.f945, Tryz.f946, Tryz.f947, Tryz.f948, Tryz.f949, Tryz.f950, Tryz.f951]
noncomputable def fs28 : List Func := [Tryz.f952, Tryz.f953, Tryz.f954, Tryz.f955, Tryz.f956, Tryz.f957, Tryz.f958, Tryz.f959, Tryz.f960, Tryz.f961, Tryz.f962, Tryz.f963, Tryz.f964, Tryz.f965, Tryz.f966, Tryz.f967, Tryz.f968, Tryz.f969, Tryz.f970, Tryz.f971, Tryz.f972, Tryz.f973, Tryz.f974, Tryz.f975, Tryz.f976, Tryz.f977, Tryz.f978, Tryz.f979, Tryz.f980, Tryz.f981, Tryz.f982, Tryz.f983, Tryz.f984, Tryz.f985]
noncomputable def fs29 : List Func := [Tryz.f986, Tryz.f987, Tryz.f988, Tryz.f989, Tryz.f990, Tryz.f991, Tryz.f992, Tryz.f993, Tryz.f994, Tryz.f995, Tryz.f996, Tryz.f997, Tryz.f998, Tryz.f999, Tryz.f1000, Tryz.f1001, Tryz.f1002, Tryz.f1003, Tryz.f1004, Tryz.f1005, Tryz.f1006, Tryz.f1007, Tryz.f1008, Tryz.f1009, Tryz.f1010, Tryz.f1011, Tryz.f1012, Tryz.f1013, Tryz.f1014, Tryz.f1015, Tryz.f1016, Tryz.f1017, Tryz.f1018, Tryz.f1019]
noncomputable def fs30 : List Func := [Tryz.f1020, Tryz.f1021, Tryz.f1022, Tryz.f1023, Tryz.f1024, Tryz.f1025, Tryz.f1026, Tryz.f1027, Tryz.f1028, Tryz.f1029, Tryz.f1030, Tryz.f1031, Tryz.f1032, Tryz.f1033, Tryz.f1034, Tryz.f1035, Tryz.f1036, Tryz.f1037, Tryz.f1038, Tryz.f1039, Tryz.f1040, Tryz.f1041, Tryz.f1042, Tryz.f1043, Tryz.f1044, Tryz.f1045, Tryz.f1046, Tryz.f1047, Tryz.f1048, Tryz.f1049, Tryz.f1050, Tryz.f1051, Tryz.f1052, Tryz.f1053]
noncomputable def fs31 : List Func := [Tryz.f1054, Tryz.f1055, Tryz.f1056, Tryz.f1057, Tryz.f1058, Tryz.f1059, Tryz.f1060, Tryz.f1061, Tryz.f1062, Tryz.f1063, Tryz.f1064, Tryz.f1065, Tryz.f1066, Tryz.f1067, Tryz.f1068, Tryz.f1069, Tryz.f1070, Tryz.f1071, Tryz.f1072, Tryz.f1073, Tryz.f1074, Tryz.f1075, Tryz.f1076, Tryz.f1077, Tryz.f1078, Tryz.f1079, Tryz.f1080, Tryz.f1081, Tryz.f1082, Tryz.f1083, Tryz.f1084, Tryz.f1085, Tryz.f1086, Tryz.f1087]
noncomputable def fs32 : List Func := [Tryz.f1088, Tryz.f1089, Tryz.f1090, Tryz.f1091, Tryz.f1092, Tryz.f1093, Tryz.f1094, Tryz.f1095, Tryz.f1096, Tryz.f1097, Tryz.f1098, Tryz.f1099, Tryz.f1100, Tryz.f1101, Tryz.f1102, Tryz.f1103, Tryz.f1104, Tryz.f1105, Tryz.f1106, Tryz.f1107, Tryz.f1108, Tryz.f1109, Tryz.f1110, Tryz.f1111, Tryz.f1112, Tryz.f1113, Tryz.f1114, Tryz.f1115, Tryz.f1116, Tryz.f1117, Tryz.f1118, Tryz.f1119, Tryz.f1120, Tryz.f1121]
noncomputable def fs33 : List Func := [Tryz.f1122, Tryz.f1123, Tryz.f1124, Tryz.f1125, Tryz.f1126, Tryz.f1127, Tryz.f1128, Tryz.f1129]
theorem funcs_list : Tryz.prog.funcs.toList = fs0 ++ (fs1 ++ (fs2 ++ (fs3 ++ (fs4 ++ (fs5 ++ (fs6 ++ (fs7 ++ (fs8 ++ (fs9 ++ (fs10 ++ (fs11 ++ (fs12 ++ (fs13 ++ (fs14 ++ (fs15 ++ (fs16 ++ (fs17 ++ (fs18 ++ (fs19 ++ (fs20 ++ (fs21 ++ (fs22 ++ (fs23 ++ (fs24 ++ (fs25 ++ (fs26 ++ (fs27 ++ (fs28 ++ (fs29 ++ (fs30 ++ (fs31 ++ (fs32 ++ (fs33))))))))))))))))))))))))))))))))) := by kernel_rfl

/-- A fact on all functions, 34 at a time. -/
theorem map_all {α : Type} (q : Func → α) {l0 l1 l2 l3 l4 l5 l6 l7 l8 l9 l10 l11 l12 l13 l14 l15 l16 l17 l18 l19 l20 l21 l22 l23 l24 l25 l26 l27 l28 l29 l30 l31 l32 l33 : List α} (h0 : fs0.map q = l0) (h1 : fs1.map q = l1) (h2 : fs2.map q = l2) (h3 : fs3.map q = l3) (h4 : fs4.map q = l4) (h5 : fs5.map q = l5) (h6 : fs6.map q = l6) (h7 : fs7.map q = l7) (h8 : fs8.map q = l8) (h9 : fs9.map q = l9) (h10 : fs10.map q = l10) (h11 : fs11.map q = l11) (h12 : fs12.map q = l12) (h13 : fs13.map q = l13) (h14 : fs14.map q = l14) (h15 : fs15.map q = l15) (h16 : fs16.map q = l16) (h17 : fs17.map q = l17) (h18 : fs18.map q = l18) (h19 : fs19.map q = l19) (h20 : fs20.map q = l20) (h21 : fs21.map q = l21) (h22 : fs22.map q = l22) (h23 : fs23.map q = l23) (h24 : fs24.map q = l24) (h25 : fs25.map q = l25) (h26 : fs26.map q = l26) (h27 : fs27.map q = l27) (h28 : fs28.map q = l28) (h29 : fs29.map q = l29) (h30 : fs30.map q = l30) (h31 : fs31.map q = l31) (h32 : fs32.map q = l32) (h33 : fs33.map q = l33) : Tryz.prog.funcs.toList.map q = [l0, l1, l2, l3, l4, l5, l6, l7, l8, l9, l10, l11, l12, l13, l14, l15, l16, l17, l18, l19, l20, l21, l22, l23, l24, l25, l26, l27, l28, l29, l30, l31, l32, l33].flatten := by
  rw [funcs_list]
  simp only [List.map_append, h0, h1, h2, h3, h4, h5, h6, h7, h8, h9, h10, h11, h12, h13, h14, h15, h16, h17, h18, h19, h20, h21, h22, h23, h24, h25, h26, h27, h28, h29, h30, h31, h32, h33, List.flatten_cons, List.flatten_nil, List.append_nil]
theorem all_all (q : Func → Bool) (h0 : fs0.all q = true) (h1 : fs1.all q = true) (h2 : fs2.all q = true) (h3 : fs3.all q = true) (h4 : fs4.all q = true) (h5 : fs5.all q = true) (h6 : fs6.all q = true) (h7 : fs7.all q = true) (h8 : fs8.all q = true) (h9 : fs9.all q = true) (h10 : fs10.all q = true) (h11 : fs11.all q = true) (h12 : fs12.all q = true) (h13 : fs13.all q = true) (h14 : fs14.all q = true) (h15 : fs15.all q = true) (h16 : fs16.all q = true) (h17 : fs17.all q = true) (h18 : fs18.all q = true) (h19 : fs19.all q = true) (h20 : fs20.all q = true) (h21 : fs21.all q = true) (h22 : fs22.all q = true) (h23 : fs23.all q = true) (h24 : fs24.all q = true) (h25 : fs25.all q = true) (h26 : fs26.all q = true) (h27 : fs27.all q = true) (h28 : fs28.all q = true) (h29 : fs29.all q = true) (h30 : fs30.all q = true) (h31 : fs31.all q = true) (h32 : fs32.all q = true) (h33 : fs33.all q = true) : Tryz.prog.funcs.toList.all q = true := by
  rw [funcs_list]
  simp only [List.all_append, h0, h1, h2, h3, h4, h5, h6, h7, h8, h9, h10, h11, h12, h13, h14, h15, h16, h17, h18, h19, h20, h21, h22, h23, h24, h25, h26, h27, h28, h29, h30, h31, h32, h33, Bool.and_self]

/-! ### What each leads to -/

def led0 : List (List Nat) := [[], [], [1], [4, 5, 6, 4, 4, 7, 5, 4, 5, 4, 5, 4, 8, 9, 10, 11, 12], [7], [7], [7], [13, 13, 13], [14], [15, 15, 15, 16, 18, 17, 19, 17], [16], [], [20], [], [21, 22], [], [], [], [], [], [24, 23, 25, 26, 27, 26, 26, 29, 28, 30], [], [], [31], [32], [], [33], [34, 35, 36, 36, 37], [38], [23, 39, 40, 41, 42, 26], [], [43, 44, 45], [46], [47]]
theorem led0_is : fs0.map Tryz.prog.leadsTo = led0 := by kernel_rfl
def led1 : List (List Nat) := [[48, 49, 50, 51], [51, 15, 52, 54, 53], [15, 15, 55, 56, 57], [59, 16, 60, 61, 62], [63], [64, 65, 65, 66, 65, 68, 67, 65, 64], [26, 26, 26, 69], [65, 66, 70, 65, 71, 72], [71, 33, 69, 73, 75, 74, 76, 77, 74, 78, 74, 79, 69, 80, 81], [82, 83], [82, 84, 45], [85], [], [86], [87, 23], [88, 23, 90, 89, 91, 92, 93, 93, 25, 94, 95, 95], [96, 97, 96, 98, 99, 99, 100], [102, 103, 106, 110, 118, 101], [122, 123, 124], [125, 127, 126, 128], [119], [], [130, 129], [58], [131, 131], [52, 132, 133, 134], [130, 135], [], [136], [], [137], [64], [138, 33], [139, 140, 141]]
theorem led1_is : fs1.map Tryz.prog.leadsTo = led1 := by kernel_rfl
def led2 : List (List Nat) := [[31], [99], [143, 142, 33, 144, 74], [66], [145, 146, 147, 141, 33, 69, 26], [26, 149, 148, 150, 151, 26, 26, 69], [26, 69], [55, 15], [55, 152, 153, 154, 155], [156], [55, 15], [158, 157, 15], [159, 33, 69], [160, 33, 74], [], [161], [], [162, 163, 162, 164, 163, 165], [166, 167, 168, 169], [170], [171], [172], [], [], [90, 89, 173, 90, 89, 173, 173, 173, 173, 91], [174, 90, 89, 173, 90, 89, 91, 90, 175, 88, 176, 173, 173, 90, 177, 173, 177, 91], [90, 89, 90, 89, 178, 178, 90, 89, 173, 179, 90, 25, 173, 91], [89], [180, 181, 141, 182, 141], [179], [179, 179, 99], [183, 28, 28, 28, 30], [99], []]
theorem led2_is : fs2.map Tryz.prog.leadsTo = led2 := by kernel_rfl
def led3 : List (List Nat) := [[184, 104], [105, 104], [], [185, 192, 192, 193, 194, 195, 198, 200, 101], [107, 104], [108, 104], [109], [202, 192, 203, 204, 206, 205, 192, 207, 205], [111, 104], [112, 113, 116, 101], [208], [114, 104], [115], [193, 209, 104], [117], [213, 104], [119, 120, 121], [216, 217, 218, 219, 220, 222, 223, 224, 225], [226], [], [], [122], [122, 122, 122], [227, 228], [], [229, 230, 231, 232, 230, 230], [233, 234, 233], [235, 236, 237, 238, 239, 240, 241, 242, 129, 129], [243, 244], [], [], [245], [132], [246, 247, 248, 249, 250, 251, 252, 253, 254, 135, 135]]
theorem led3_is : fs3.map Tryz.prog.leadsTo = led3 := by kernel_rfl
def led4 : List (List Nat) := [[255], [257, 256, 258, 260, 259, 262, 261], [263, 264], [265, 266, 267, 268, 138], [123, 124], [269, 77, 33, 266, 270], [271, 145, 272], [], [141], [273, 274, 274, 275], [192], [207], [271, 276, 277, 276, 278], [150], [279, 280, 280], [271, 55, 276, 278], [281, 282, 283], [281, 284, 282, 288, 290, 289, 283, 282, 291], [281, 273, 293, 292], [273, 292], [], [294, 295, 126, 294, 296, 297], [297], [298], [15, 299], [], [300], [], [], [301], [], [244, 302, 303], [], [304, 305]]
theorem led4_is : fs4.map Tryz.prog.leadsTo = led4 := by kernel_rfl
def led5 : List (List Nat) := [[46], [85], [306], [], [], [179, 25], [307], [67], [197], [308, 309], [179], [310], [], [38, 311], [185, 187, 186, 188, 104], [172, 312], [313], [], [189, 191, 190], [185, 193, 314, 315, 314, 316, 104, 52, 197], [317], [], [319, 318], [], [203, 203], [196, 197], [197], [25], [199, 104], [189], [201, 104], [185, 178], [193, 193], [320]]
theorem led5_is : fs5.map Tryz.prog.leadsTo = led5 := by kernel_rfl
def led6 : List (List Nat) := [[192, 203], [], [320], [192], [], [211, 212, 210, 205, 197], [321], [315], [], [215, 214], [122, 322, 323], [320, 211], [324, 325, 326, 326, 327], [192, 192, 328], [204, 204, 331, 331, 332, 331, 332, 331], [130, 333], [221], [334, 334], [130, 335], [221], [130, 336], [221], [], [337, 340, 101], [344, 345, 345, 345, 100], [], [], [], [], [], [233], [], [346, 346], [347, 348]]
theorem led6_is : fs6.map Tryz.prog.leadsTo = led6 := by kernel_rfl
def led7 : List (List Nat) := [[349, 349, 349, 350], [], [], [], [], [], [], [], [252], [351, 351], [347, 348], [352, 352, 352, 353], [], [252, 252, 252], [131, 131], [252, 252], [252, 252, 252, 252], [269], [], [], [], [354], [354], [83, 355], [356, 355], [357], [358, 359, 360, 361], [], [362], [363], [138, 364, 270], [140], [365, 366, 366, 366, 366, 366, 366], [59, 132, 132, 62, 367]]
theorem led7_is : fs7.map Tryz.prog.leadsTo = led7 := by kernel_rfl
def led8 : List (List Nat) := [[368, 369, 370, 371, 374, 373, 372], [375], [], [290, 289, 376, 377], [51, 379, 54, 378, 380, 381, 382, 384, 383], [385, 387, 386, 389], [390], [], [391], [273, 274], [393, 392], [282], [286, 285], [392], [287], [290], [394], [130, 395], [396, 58, 58, 58, 398], [], [54, 399, 399, 400, 401, 402, 403, 404], [405, 406, 275], [407, 407, 234], [48, 408, 228, 227], [409, 410, 411, 412, 414, 413, 410, 415, 412, 412, 416, 417, 414, 413], [], [], [414], [], [], [], [], [], [418, 419]]
theorem led8_is : fs8.map Tryz.prog.leadsTo = led8 := by kernel_rfl
def led9 : List (List Nat) := [[162], [420, 322], [], [421], [322, 422, 423, 424, 30], [425], [], [], [], [], [52, 197], [], [], [], [192, 426], [], [427], [323, 428, 122, 429, 430, 431, 432, 433], [207], [326, 324], [], [204, 211, 434, 435, 204, 331, 332, 436], [330, 329], [], [], [], [204], [437, 438, 439, 440, 441, 442, 443, 444, 333, 333], [], [445, 446, 447, 448, 449, 450, 451, 452, 335, 335], [453, 454, 455, 456, 457, 458, 459, 460, 336, 336], [338, 104], [339], [462, 461, 463, 465, 468, 472, 101]]
theorem led9_is : fs9.map Tryz.prog.leadsTo = led9 := by kernel_rfl
def led10 : List (List Nat) := [[341, 104], [342, 104], [343], [475, 476, 104], [180, 141], [99], [], [130], [], [350], [478, 478, 478], [252, 252], [353], [479, 479, 479], [], [480], [481, 83], [482], [483], [483], [483, 33, 484], [483, 33, 484], [44, 183, 45, 28, 28, 28, 83, 28, 28, 28, 30], [], [122, 122, 485, 122, 122, 122, 122, 486, 485, 487], [486, 486, 485, 485], [33, 488], [17], [489, 490, 491], [397, 146, 492], [492, 493, 492, 495, 494], [496, 369, 497, 147, 499, 498, 500, 502, 501], [505, 506, 505, 507], []]
theorem led10_is : fs10.map Tryz.prog.leadsTo = led10 := by kernel_rfl
def led11 : List (List Nat) := [[], [54, 299, 508, 120, 509], [130, 510], [221, 221, 58, 58, 58, 398], [511, 515, 516], [127], [381, 381], [], [517], [397, 146, 492], [], [146, 397], [518], [385, 388], [520, 519, 522, 521, 524, 523], [526, 525], [], [529, 530, 532, 531, 533, 531, 535, 534, 536, 537, 531, 538, 534, 539], [], [287], [540, 541], [542, 543, 544, 545, 546, 547, 548, 549, 395, 395], [397, 146], [204], [], [550, 551], [552, 255, 552, 255, 255, 540, 552, 255], [], [553, 554, 555, 556, 557, 558], [], [560, 559, 561, 562, 563, 417, 564, 565, 566, 128], [567], [568], []]
theorem led11_is : fs11.map Tryz.prog.leadsTo = led11 := by kernel_rfl
def led12 : List (List Nat) := [[88, 23, 90, 89, 91, 569, 570, 90, 89, 90, 89, 570, 90, 89, 570], [407], [409], [415, 410, 415, 409, 409, 571, 572, 410, 415, 415, 572, 410, 415, 409, 572], [410, 571], [227, 573, 574, 575, 104, 577, 578, 104], [581], [410], [582, 226], [583, 416, 255, 584, 585], [], [], [586, 588, 587, 587, 589, 587, 590, 589, 591, 592, 590, 591, 592, 586, 593, 590, 594, 590, 587, 595, 420, 590, 590, 596, 586], [597, 598], [599, 600, 422, 599, 601, 428, 122, 430, 602, 602], [141, 28, 33, 28, 28, 603, 28, 604, 33, 28, 28, 28, 605, 28, 606, 28, 606, 423, 606], [], [], [], [427], [122, 603, 604, 596, 123, 122, 52], [], [122, 122], [607, 607, 608, 607, 607, 607, 607, 607, 607, 607, 433, 607, 607, 609, 433], [607, 433], [], [266], [], [205, 434, 33, 331], [], [610, 610], [347, 348], [611, 611, 611, 612], []]
theorem led12_is : fs12.map Tryz.prog.leadsTo = led12 := by kernel_rfl
def led13 : List (List Nat) := [[], [], [], [], [613, 613], [347, 348], [614, 614, 614, 615], [], [], [], [], [], [616, 616], [347, 348], [617, 617, 617, 618], [], [], [], [], [619], [], [464], [620, 104], [466, 467], [621, 104], [], [469, 104], [470, 461, 466, 471], [], [], [473, 104], [474, 461, 466, 471], [], [622, 226]]
theorem led13_is : fs13.map Tryz.prog.leadsTo = led13 := by kernel_rfl
def led14 : List (List Nat) := [[477, 477], [624, 623], [], [252], [306, 625, 306, 164, 163], [], [626, 626, 626, 626, 626, 626, 627], [], [], [628], [], [269], [14, 267, 267, 267, 267, 267, 183, 28, 424, 424, 424, 30, 28, 30], [51, 550, 629], [630], [631, 632], [192, 633], [324], [634], [], [635], [636, 99, 637, 492, 638, 634, 639], [640], [641, 642, 641, 642, 641, 506, 643, 644, 147, 642, 497, 500, 499, 645, 646, 647], [644, 648, 649, 507], [130, 650], [503, 504], [651], [58, 58, 398], [506], [], [652, 634, 505], [], [119, 653]]
theorem led14_is : fs14.map Tryz.prog.leadsTo = led14 := by kernel_rfl
def led15 : List (List Nat) := [[654, 655, 656, 657, 658, 659, 660, 661, 510, 510], [513, 512, 514], [226], [], [], [], [662, 663, 664, 665, 666, 667], [146, 492, 668, 634, 669, 670, 214], [], [671], [522, 522, 520, 519], [672], [23, 389, 521], [673], [522], [318], [385, 528, 527], [329], [385], [], [], [], [381, 674, 675], [676, 677, 147, 675], [], [678, 679, 680, 676, 681, 682, 683, 684], [685, 686, 687, 688, 689, 690, 691, 692, 687, 693], [685, 692, 687, 675], [685, 692, 694, 679, 695, 684], [696, 697, 698, 699, 700, 701, 702, 679, 703, 278], [], [], [], [704, 704]]
theorem led15_is : fs15.map Tryz.prog.leadsTo = led15 := by kernel_rfl
def led16 : List (List Nat) := [[347, 348], [705, 705, 705, 706], [], [], [], [], [633, 211], [119, 707, 475, 708, 475, 709, 711, 710], [712, 623], [713, 416, 714, 715], [416, 716, 717, 718], [416, 255, 719, 581], [583, 584, 585], [720, 722, 721], [416, 724, 723], [726], [], [727, 728, 729, 730], [731, 540, 584, 584, 540, 584, 732], [416, 719, 733, 733], [734], [], [727, 728, 735, 730, 730], [], [], [174, 90, 89, 90, 175, 173, 173, 90, 177, 91], [89], [415, 736], [410, 415], [], [], [576], [737, 104, 739, 104, 740, 104], [477, 255]]
theorem led16_is : fs16.map Tryz.prog.leadsTo = led16 := by kernel_rfl
def led17 : List (List Nat) := [[579, 104], [475, 580, 104], [577], [], [], [], [732, 255], [743, 742], [], [67, 586], [], [591, 745, 138, 33], [], [], [], [605], [590, 591, 592, 420, 590, 600, 586], [88, 746, 604, 586, 589, 33, 430, 586], [747], [], [], [122], [], [602, 602], [592], [122, 179], [122], [], [38], [], [], [122, 122], [], [612]]
theorem led17_is : fs17.map Tryz.prog.leadsTo = led17 := by kernel_rfl
def led18 : List (List Nat) := [[748, 748, 748], [], [615], [749, 749, 749], [], [618], [750, 750, 750], [172, 312], [619, 477, 193, 52], [477, 197], [], [], [], [], [], [626, 626, 626, 626, 626, 626], [], [751, 753, 755, 756, 757, 101], [122, 52], [146, 760, 497, 761, 761, 761, 762, 370], [370, 763, 764, 765], [320, 211, 435], [], [489, 550, 766, 767, 581, 16, 768], [23, 769], [397], [], [192, 320], [265], [770, 771, 772, 773, 499, 498], [265], [636, 769], [774], [775, 776, 777, 778, 778, 775, 779, 779, 775, 779, 779, 775, 780, 269, 265, 781, 782, 783, 784, 785, 786, 787, 788, 789, 790, 791, 792, 793, 794, 795, 269]]
theorem led18_is : fs18.map Tryz.prog.leadsTo = led18 := by kernel_rfl
def led19 : List (List Nat) := [[640, 269, 269], [265, 778, 777], [688, 796], [506, 506, 506], [797, 798, 799, 800, 801, 802, 803, 804, 650, 650], [269, 269, 805], [], [475, 806, 768, 475, 807, 807, 807, 376, 808], [], [809, 809], [347, 348], [810, 810, 810, 811], [], [], [], [], [], [], [], [663], [], [663], [], [812], [492, 397], [], [], [], [192, 320, 211], [], [], [814, 813, 815], [490, 491], [816, 817, 818, 819, 820]]
theorem led19_is : fs19.map Tryz.prog.leadsTo = led19 := by kernel_rfl
def led20 : List (List Nat) := [[371, 374], [676], [676, 821, 821], [822, 823, 692, 147, 824, 682, 825, 815, 826], [675], [381], [497], [827, 676, 828, 825, 677], [192, 215], [796], [693, 693, 693], [829, 634], [769], [], [817, 819], [822, 681, 828, 826, 692, 824, 682, 830, 831], [685, 390], [685, 691, 832, 52, 833, 390], [685, 692, 832, 834, 685, 147, 835, 834], [836, 834, 838, 837], [836, 838, 837, 827, 839, 834, 390], [685, 832, 840, 390], [685], [679, 278, 841], [], [706], [842, 842, 842], [204, 192, 320], [843, 843, 182, 843, 434, 844], [843, 843, 843], [130, 845], [577, 577, 221], [], []]
theorem led20_is : fs20.map Tryz.prog.leadsTo = led20 := by kernel_rfl
def led21 : List (List Nat) := [[846, 52], [52], [732, 717, 732, 847, 732, 717], [255, 848], [255, 848], [850, 849], [584], [851], [720], [852], [725], [732, 416, 719], [], [728], [233], [735, 728, 735, 728, 727, 853, 854, 728, 735, 735, 854, 728, 735, 727, 854], [728, 853], [], [846], [732, 855, 717, 732, 847, 732, 718], [], [728], [856], [738], [857, 104], [577], [741, 104], [577], [858], [732, 732, 744], [651, 58], [], [603], []]
theorem led21_is : fs21.map Tryz.prog.leadsTo = led21 := by kernel_rfl
def led22 : List (List Nat) := [[], [], [], [752, 104], [859, 860, 104, 862, 104, 863], [754, 104], [768, 204, 193, 193, 193, 864, 808], [766, 865, 104, 868, 104], [869, 104], [551, 758, 759], [872], [], [873], [], [23, 769, 874, 875, 876, 877, 769, 879, 878, 880, 769], [881, 397, 493], [765, 497, 882, 765, 765, 771, 883, 764], [884, 769, 881], [192, 320], [204, 766], [192, 205, 217], [885], [771, 644, 886], [636, 769], [], [], [880, 507, 887], [640, 640, 640, 265], [640, 640, 265, 640, 640, 265], [775, 775, 776, 775], [888, 265], [888, 805, 265], [269, 269, 265], [889, 889, 269, 487]]
theorem led22_is : fs22.map Tryz.prog.leadsTo = led22 := by kernel_rfl
def led23 : List (List Nat) := [[269, 269, 487, 889, 786, 781], [889, 487], [889, 890, 487], [889, 890, 487], [889, 487], [891, 892], [891, 893, 265], [891, 894, 892], [891, 895, 892], [891, 487], [891, 889, 892], [896, 122, 365, 364], [896, 122, 365, 487], [269, 609, 897, 892, 898, 265, 487], [269, 322, 323, 899], [], [900, 900], [347, 348], [901, 901, 901, 902], [], [], [], [], [58, 58, 221, 398], [807, 807, 324, 807, 192, 207, 807, 807, 577, 192, 633, 332, 475, 903, 807, 434, 807], [477], [221, 221, 58, 58, 58, 398], [], [811], [904, 904, 904], [], [905], [], [681, 906, 821]]
theorem led23_is : fs23.map Tryz.prog.leadsTo = led23 := by kernel_rfl
def led24 : List (List Nat) := [[681, 907], [908, 910, 909], [908, 913, 909, 918, 917], [909, 919, 920, 917], [921, 922, 923, 924, 925, 926, 927, 928, 929], [581, 930], [931], [762], [369, 373, 886, 374], [827, 676], [932], [933, 634], [935, 934, 936], [], [130, 937], [58, 58, 398], [], [540, 938], [827, 839, 833, 390], [], [685, 692, 832, 685, 147, 835, 832, 835], [940, 939, 390], [880, 942], [], [833, 943, 939], [390], [], [], [944, 634, 945], [946, 947, 948, 949, 950, 951, 952, 953, 845, 845], [954, 623], [255, 848], [233, 955, 28, 30], []]
theorem led24_is : fs24.map Tryz.prog.leadsTo = led24 := by kernel_rfl
def led25 : List (List Nat) := [[732, 744], [], [], [255, 735], [728, 735], [848], [306, 140], [52], [946, 946, 956, 956], [192, 203, 957, 52, 958], [861], [52, 197], [193], [766, 766, 58, 58, 58, 398], [], [866, 104], [867], [204, 766, 207], [867, 768, 867], [870, 104], [871], [959, 104], [], [146, 960, 961], [130, 962], [221], [], [663], [], [663], [192, 320], [397, 963], [882], []]
theorem led25_is : fs25.map Tryz.prog.leadsTo = led25 := by kernel_rfl
def led26 : List (List Nat) := [[964], [192, 206], [774, 965, 966, 967, 504, 968], [147], [269, 269, 269], [269], [], [269], [269], [], [183, 28, 606, 28, 30, 969, 970], [183, 28, 606, 28, 30, 969, 971], [269], [270, 141], [139, 268, 140, 897], [899, 269, 429, 269, 645, 646, 647], [], [902], [972, 972, 972], [974, 973], [], [], [], [676], [], [975], [911, 912], [381], [885, 827, 147, 976, 147, 977, 917], [911, 915, 914], [978], [916], [], [979]]
theorem led26_is : fs26.map Tryz.prog.leadsTo = led26 := by kernel_rfl
def led27 : List (List Nat) := [[916, 916], [], [981, 980], [581, 676, 982, 983, 581, 984], [986, 985, 987, 985, 988, 989], [676, 676, 990], [991, 692, 992, 992, 993, 993, 981, 995, 994, 376, 996], [998, 997], [999, 1000, 1001, 999, 1001], [1000], [550, 629], [999, 676, 1002, 1003, 908, 676, 934, 1004], [581, 984], [496], [], [], [975], [], [], [1005, 1006, 1007, 1008, 1009, 1010, 1011, 1012, 937, 937], [], [979], [941], [1013], [217], [], [], [843], [], [1014, 1014], [347, 348], [1015, 1015, 1015, 1016], [], []]
theorem led27_is : fs27.map Tryz.prog.leadsTo = led27 := by kernel_rfl
def led28 : List (List Nat) := [[], [], [], [38], [1017, 956, 956], [193], [634, 1018], [207, 843, 844, 255], [322], [1019, 1020, 961, 1021, 761, 1022, 1023, 1024, 1025, 1026], [1027, 1028, 1029, 1030, 1031, 1032, 1033, 1034, 962, 962], [192, 320], [1035], [769, 147, 774], [880, 942, 887, 887], [130, 1036], [], [83, 1037, 183, 28, 1038, 1039, 606, 1038, 30], [1040], [1040], [], [], [577, 221], [], [827, 692, 676, 907], [838, 941], [], [], [1041], [1013], [], [], [], [990, 692]]
theorem led28_is : fs28.map Tryz.prog.leadsTo = led28 := by kernel_rfl
def led29 : List (List Nat) := [[], [], [], [1042], [907, 676], [676], [907], [], [1043], [], [221, 221, 58, 58, 58, 398], [1044], [58, 58, 58, 398], [], [540], [147, 670, 1045, 1047, 634, 498], [999, 581, 984, 907, 1000, 930], [907], [], [], [1048, 1048], [347, 348], [1049, 1049, 1049, 1050], [], [], [], [], [692], [], [1016], [1051, 1051, 1051], [1052, 1052, 1052], [], [600, 771, 883, 961]]
theorem led29_is : fs29.map Tryz.prog.leadsTo = led29 := by kernel_rfl
def led30 : List (List Nat) := [[600, 643, 146], [428], [497], [430], [431], [432], [433], [], [1053, 1053], [347, 348], [1054, 1054, 1054, 1055], [], [], [], [], [83, 45], [1056, 1057, 1058, 1059, 1060, 1061, 1062, 1063, 1036, 1036], [], [38, 1064], [], [1065], [], [], [], [1066, 1066, 1067, 1067], [1046, 689], [1068, 634], [], [], [1050], [1069, 1069, 1069], [], [], []]
theorem led30_is : fs30.map Tryz.prog.leadsTo = led30 := by kernel_rfl
def led31 : List (List Nat) := [[1055], [1070, 1070, 1070], [], [1071, 1071], [347, 348], [1072, 1072, 1072, 1073], [], [], [], [], [1074], [1075, 1076], [], [1077, 1067, 1067], [], [], [], [], [1073], [1078, 1078, 1078], [], [], [], [1079, 1079, 1079], [], [], [], [], [], [], [], [], [], []]
theorem led31_is : fs31.map Tryz.prog.leadsTo = led31 := by kernel_rfl
def led32 : List (List Nat) := [[], [], [], [], [], [], [], [], [], [], [], [], [401], [404], [1100, 397, 397, 1106], [403], [1100, 1107, 1108, 1109, 509], [1100, 54, 399, 399, 400, 402], [1110, 714, 717, 719, 581], [], [872], [], [416], [], [], [], [], [], [], [], [], [], [], []]
theorem led32_is : fs32.map Tryz.prog.leadsTo = led32 := by kernel_rfl
def led33 : List (List Nat) := [[], [], [], [], [], [], [], [484, 484]]
theorem led33_is : fs33.map Tryz.prog.leadsTo = led33 := by kernel_rfl
def leds : List (List (List Nat)) := [led0, led1, led2, led3, led4, led5, led6, led7, led8, led9, led10, led11, led12, led13, led14, led15, led16, led17, led18, led19, led20, led21, led22, led23, led24, led25, led26, led27, led28, led29, led30, led31, led32, led33]
theorem leads_all : Tryz.prog.funcs.toList.map Tryz.prog.leadsTo = leds.flatten := map_all _ led0_is led1_is led2_is led3_is led4_is led5_is led6_is led7_is led8_is led9_is led10_is led11_is led12_is led13_is led14_is led15_is led16_is led17_is led18_is led19_is led20_is led21_is led22_is led23_is led24_is led25_is led26_is led27_is led28_is led29_is led30_is led31_is led32_is led33_is
def leadsF (f : Nat) : List Nat := (look leds 34 f).getD []

theorem table {α : Type} (q : Func → α) {TT : List (List α)} (h : Tryz.prog.funcs.toList.map q = TT.flatten) (ok : okC 34 TT = true) (f : Nat) : (Tryz.prog.funcs[f]?).map q = look TT 34 f := by
  rw [← flat_get (by decide) TT f ok, ← h, List.getElem?_map, Array.getElem?_toList]

theorem leads_is (f : Nat) : (Tryz.prog.funcs[f]?).elim [] Tryz.prog.leadsTo = leadsF f := by
  unfold leadsF
  rw [← table _ leads_all (by kernel_rfl) f]
  cases Tryz.prog.funcs[f]? <;> rfl

/-- The functions that the law reaches, by their numbers. -/
def reached : List Nat := [3, 4, 7, 13, 5, 6, 8, 14, 21, 22, 9, 15, 16, 18, 17, 19, 10, 11, 12, 20, 24, 32, 46, 23, 31, 43, 82, 83, 161, 44, 84, 45, 85, 162, 300, 163, 164, 165, 301, 25, 26, 33, 47, 86, 166, 167, 244, 302, 303, 168, 169, 304, 305, 418, 419, 27, 34, 48, 87, 170, 49, 88, 171, 90, 89, 172, 306, 91, 92, 173, 93, 174, 175, 179, 308, 309, 421, 597, 598, 176, 307, 420, 586, 588, 587, 67, 139, 265, 266, 362, 183, 38, 63, 311, 425, 28, 30, 267, 363, 268, 138, 263, 357, 482, 626, 627, 264, 358, 483, 359, 360, 484, 361, 364, 122, 485, 628, 486, 487, 269, 140, 123, 124, 270, 365, 366, 488, 424, 141, 77, 156, 589, 591, 745, 590, 592, 593, 605, 594, 600, 595, 746, 603, 604, 430, 596, 747, 322, 427, 177, 94, 178, 197, 95, 50, 96, 180, 181, 310, 422, 599, 601, 602, 428, 52, 423, 606, 182, 97, 98, 99, 100, 51, 102, 184, 185, 312, 187, 186, 313, 188, 189, 193, 314, 315, 316, 104, 191, 190, 317, 103, 105, 192, 319, 318, 194, 203, 320, 426, 195, 196, 198, 199, 200, 201, 101, 106, 107, 108, 109, 202, 204, 206, 205, 207, 110, 111, 112, 208, 113, 114, 115, 209, 211, 212, 210, 321, 116, 117, 213, 215, 214, 323, 429, 431, 607, 608, 433, 609, 432, 118, 119, 216, 324, 325, 326, 327, 434, 435, 331, 332, 436, 217, 328, 330, 329, 218, 219, 130, 243, 333, 437, 438, 610, 439, 347, 348, 440, 611, 612, 748, 441, 442, 443, 444, 220, 221, 334, 222, 335, 445, 446, 613, 447, 448, 614, 615, 749, 449, 450, 451, 452, 223, 224, 336, 453, 454, 616, 455, 456, 617, 618, 750, 457, 458, 459, 460, 225, 120, 226, 121, 35, 54, 53, 125, 227, 337, 338, 339, 462, 461, 619, 463, 464, 620, 477, 624, 623, 465, 466, 621, 467, 468, 469, 470, 471, 472, 473, 474, 340, 341, 342, 343, 475, 622, 476, 228, 344, 345, 127, 229, 230, 231, 232, 126, 128, 233, 234, 36, 55, 56, 129, 235, 236, 346, 237, 238, 349, 350, 478, 239, 240, 241, 242, 57, 58, 131, 37, 59, 132, 133, 245, 134, 60, 135, 246, 252, 247, 351, 248, 249, 352, 353, 479, 250, 251, 253, 254, 61, 62, 136, 255, 29, 39, 64, 137, 257, 256, 258, 260, 354, 259, 262, 356, 481, 355, 480, 625, 261, 65, 66, 68, 40, 69, 41, 70, 143, 142, 271, 367, 145, 273, 375, 299, 414, 581, 508, 509, 653, 806, 807, 577, 633, 903, 974, 973, 768, 376, 510, 654, 655, 809, 656, 657, 810, 811, 904, 658, 659, 660, 661, 808, 398, 274, 275, 290, 396, 397, 146, 289, 395, 542, 543, 704, 544, 545, 705, 706, 842, 546, 547, 548, 549, 377, 272, 368, 489, 550, 629, 751, 752, 859, 957, 958, 634, 1018, 860, 861, 862, 863, 766, 753, 754, 864, 755, 865, 866, 867, 868, 756, 869, 870, 871, 959, 843, 844, 944, 945, 757, 551, 707, 708, 709, 711, 710, 845, 946, 947, 1014, 948, 949, 1015, 1016, 1051, 950, 951, 952, 953, 758, 872, 759, 490, 630, 491, 631, 760, 873, 960, 961, 1019, 771, 636, 769, 885, 883, 1020, 643, 1021, 761, 1022, 497, 637, 492, 638, 639, 1023, 1024, 1025, 1026, 762, 874, 962, 1027, 1028, 1053, 1029, 1030, 1054, 1055, 1070, 1031, 1032, 1033, 1034, 875, 876, 877, 663, 879, 878, 880, 370, 493, 495, 494, 632, 763, 881, 963, 764, 765, 884, 964, 1035, 882, 369, 371, 496, 635, 767, 147, 499, 641, 770, 644, 774, 507, 652, 505, 506, 887, 886, 965, 966, 942, 967, 1036, 1056, 1057, 1071, 1058, 1059, 1072, 1073, 1078, 1060, 1061, 1062, 1063, 504, 968, 772, 773, 498, 640, 642, 500, 648, 688, 796, 899, 645, 775, 776, 777, 778, 888, 779, 805, 780, 781, 889, 782, 786, 783, 784, 890, 785, 787, 891, 892, 788, 893, 789, 894, 969, 1037, 1038, 1064, 1074, 1039, 970, 1040, 1065, 1075, 1076, 790, 895, 971, 791, 792, 793, 896, 794, 795, 897, 898, 646, 647, 649, 502, 503, 651, 501, 650, 797, 798, 900, 799, 800, 901, 902, 972, 801, 802, 803, 804, 374, 373, 372, 144, 74, 71, 72, 42, 73, 149, 150, 279, 280, 391, 529, 530, 532, 381, 674, 675, 531, 533, 676, 677, 814, 813, 905, 815, 681, 906, 821, 930, 984, 535, 678, 679, 816, 907, 817, 908, 910, 911, 912, 827, 933, 976, 692, 977, 838, 941, 1013, 917, 979, 909, 975, 818, 913, 915, 916, 914, 978, 918, 819, 919, 920, 981, 980, 1041, 820, 921, 982, 983, 922, 986, 985, 990, 987, 988, 989, 1042, 923, 924, 991, 992, 993, 995, 994, 1043, 996, 925, 998, 997, 1044, 1066, 1067, 1077, 1079, 926, 999, 1000, 540, 1001, 670, 1045, 1046, 1068, 689, 1047, 927, 928, 929, 1002, 1003, 934, 1004, 680, 682, 683, 822, 931, 823, 824, 825, 826, 932, 684, 534, 536, 685, 686, 687, 828, 935, 936, 690, 693, 691, 829, 537, 538, 694, 695, 830, 937, 1005, 1006, 1048, 1007, 1008, 1049, 1050, 1069, 1009, 1010, 1011, 1012, 831, 539, 696, 390, 697, 832, 833, 938, 698, 834, 839, 835, 699, 836, 837, 940, 939, 700, 701, 840, 943, 702, 703, 278, 841, 148, 276, 379, 378, 511, 513, 512, 514, 515, 516, 662, 664, 665, 666, 667, 380, 382, 517, 668, 669, 812, 384, 383, 277, 385, 387, 388, 520, 522, 389, 526, 528, 527, 525, 521, 672, 519, 671, 524, 523, 673, 386, 518, 151, 75, 76, 152, 281, 282, 393, 287, 392, 283, 153, 284, 286, 285, 288, 394, 541, 291, 154, 293, 405, 567, 406, 568, 292, 399, 400, 552, 712, 401, 402, 553, 713, 416, 582, 714, 846, 954, 715, 554, 716, 732, 717, 848, 955, 847, 718, 555, 719, 850, 744, 849, 556, 583, 584, 585, 743, 742, 858, 956, 1017, 1052, 557, 720, 722, 721, 851, 558, 724, 725, 723, 852, 403, 404, 560, 559, 726, 561, 727, 728, 729, 735, 853, 854, 730, 562, 731, 563, 733, 855, 417, 564, 734, 565, 566, 155, 78, 79, 158, 297, 157, 294, 407, 295, 408, 569, 570, 296, 409, 410, 411, 415, 571, 736, 856, 572, 412, 413, 573, 574, 575, 576, 737, 738, 857, 739, 740, 741, 578, 579, 580, 80, 159, 298, 81, 160]

theorem fuel_at : 1 + (leds.flatten.map (fun l => l.length + 1)).sum = 3616 := by kernel_rfl

theorem fuel_is : 1 + (Tryz.prog.funcs.toList.map fun g => (Tryz.prog.leadsTo g).length + 1).sum = 3616 := by
  have h : (Tryz.prog.funcs.toList.map fun g => (Tryz.prog.leadsTo g).length + 1) = (Tryz.prog.funcs.toList.map Tryz.prog.leadsTo).map (fun l => l.length + 1) := by
    rw [List.map_map]
    rfl
  rw [h, leads_all]
  exact fuel_at

theorem fast_is : fastT leadsF 3616 [3] 0 [] = reached := by kernel_rfl

theorem reached_is : Tryz.prog.closure 3 = reached := by
  unfold Program.closure
  rw [fuel_is, via_eq Tryz.prog leadsF leads_is, fast_eq leadsF 3616 [3] 0 [] (fun f => by simp)]
  exact fast_is

/-! ### Names -/

def placeF (fn : Func) : Option String := if fn.ours || fn.body.isNone || fn.name == "runtime.NumGoroutine" then some fn.name else none
def pla0 : List (Option String) := [some "main.main", some "gosem.cut", none, none, none, none, none, none, none, none, none, none, none, none, none, none, none, none, none, none, none, none, none, none, none, none, none, none, none, none, none, none, none, none]
theorem pla0_is : fs0.map placeF = pla0 := by kernel_rfl
def pla1 : List (Option String) := [none, none, none, none, none, none, none, none, none, none, none, none, none, none, none, none, none, none, none, none, none, none, none, none, none, none, none, none, none, some "internal/abi.NoEscape", none, none, none, none]
theorem pla1_is : fs1.map placeF = pla1 := by kernel_rfl
def pla2 : List (Option String) := [none, none, none, none, none, none, none, none, none, none, none, none, none, none, none, none, some "internal/bytealg.CountString", none, none, none, none, none, none, none, none, none, none, none, none, none, none, none, none, none]
theorem pla2_is : fs2.map placeF = pla2 := by kernel_rfl
def pla3 : List (Option String) := [none, none, none, none, none, none, none, none, none, none, none, none, none, none, none, none, none, none, none, none, none, none, none, none, none, none, none, none, none, none, none, none, none, none]
theorem pla3_is : fs3.map placeF = pla3 := by kernel_rfl
def pla4 : List (Option String) := [none, none, none, none, none, none, none, none, none, none, none, none, none, none, none, none, none, none, none, none, none, none, none, none, none, none, none, some "internal/bytealg.IndexString", none, none, none, none, none, none]
theorem pla4_is : fs4.map placeF = pla4 := by kernel_rfl
def pla5 : List (Option String) := [none, none, none, none, none, none, none, none, none, none, none, none, none, none, none, none, none, none, none, none, none, none, none, none, none, none, none, none, none, none, none, none, none, none]
theorem pla5_is : fs5.map placeF = pla5 := by kernel_rfl
def pla6 : List (Option String) := [none, none, none, none, none, none, none, none, none, none, none, none, none, none, none, none, none, none, none, none, none, none, none, none, none, none, none, none, none, none, none, none, none, none]
theorem pla6_is : fs6.map placeF = pla6 := by kernel_rfl
def pla7 : List (Option String) := [none, none, none, none, none, none, none, none, none, none, none, none, none, none, none, none, none, none, none, none, none, none, none, none, none, none, none, none, none, none, none, none, none, none]
theorem pla7_is : fs7.map placeF = pla7 := by kernel_rfl
def pla8 : List (Option String) := [none, none, none, none, none, none, none, none, none, none, none, none, none, none, none, none, none, none, none, none, none, none, none, none, none, none, none, none, some "internal/bytealg.IndexByteString", none, none, none, none, none]
theorem pla8_is : fs8.map placeF = pla8 := by kernel_rfl
def pla9 : List (Option String) := [none, none, none, none, none, none, none, none, none, none, none, none, none, none, none, none, none, none, none, none, none, none, none, none, none, none, none, none, none, none, none, none, none, none]
theorem pla9_is : fs9.map placeF = pla9 := by kernel_rfl
def pla10 : List (Option String) := [none, none, none, none, none, none, none, none, none, none, none, none, none, none, none, none, none, none, none, none, none, none, none, none, none, none, none, none, none, none, none, none, none, none]
theorem pla10_is : fs10.map placeF = pla10 := by kernel_rfl
def pla11 : List (Option String) := [none, none, none, none, none, none, none, none, none, none, none, none, none, none, none, none, none, none, none, none, none, none, none, none, none, none, none, none, none, none, none, none, none, none]
theorem pla11_is : fs11.map placeF = pla11 := by kernel_rfl
def pla12 : List (Option String) := [none, none, none, none, none, none, none, none, none, none, none, none, none, none, none, none, none, some "internal/bytealg.MakeNoZero", none, none, none, none, none, none, none, none, none, none, none, none, none, none, none, none]
theorem pla12_is : fs12.map placeF = pla12 := by kernel_rfl
def pla13 : List (Option String) := [none, none, none, none, none, none, none, none, none, none, none, none, none, none, none, none, none, none, none, none, none, none, none, none, none, none, none, none, none, none, none, none, none, none]
theorem pla13_is : fs13.map placeF = pla13 := by kernel_rfl
def pla14 : List (Option String) := [none, none, none, none, none, none, none, none, none, none, none, none, none, none, none, none, none, none, none, none, none, none, none, none, none, none, none, none, none, none, none, none, none, none]
theorem pla14_is : fs14.map placeF = pla14 := by kernel_rfl
def pla15 : List (Option String) := [none, none, none, none, none, none, none, none, none, none, none, none, none, none, none, none, none, none, none, none, none, none, none, none, none, none, none, none, none, none, none, none, none, none]
theorem pla15_is : fs15.map placeF = pla15 := by kernel_rfl
def pla16 : List (Option String) := [none, none, none, none, none, none, none, none, none, none, none, none, none, none, none, none, none, none, none, none, none, none, none, none, none, none, none, none, none, none, none, none, none, none]
theorem pla16_is : fs16.map placeF = pla16 := by kernel_rfl
def pla17 : List (Option String) := [none, none, none, none, none, none, none, none, none, none, none, none, none, none, none, none, none, none, none, none, none, none, none, none, none, none, none, none, none, none, none, none, none, none]
theorem pla17_is : fs17.map placeF = pla17 := by kernel_rfl
def pla18 : List (Option String) := [none, none, none, none, none, none, none, none, none, none, none, none, none, none, none, none, none, none, none, none, none, none, none, none, none, none, none, none, none, none, none, none, none, none]
theorem pla18_is : fs18.map placeF = pla18 := by kernel_rfl
def pla19 : List (Option String) := [none, none, none, none, none, none, none, none, none, none, none, none, none, none, none, none, none, none, none, none, none, none, none, none, none, none, none, none, none, none, none, none, none, none]
theorem pla19_is : fs19.map placeF = pla19 := by kernel_rfl
def pla20 : List (Option String) := [none, none, none, none, none, none, none, none, none, none, none, none, none, none, none, none, none, none, none, none, none, none, none, none, none, none, none, none, none, none, none, none, none, none]
theorem pla20_is : fs20.map placeF = pla20 := by kernel_rfl
def pla21 : List (Option String) := [none, none, none, none, none, none, none, none, none, none, none, none, none, none, none, none, none, none, none, none, none, none, none, none, none, none, none, none, none, none, none, none, none, none]
theorem pla21_is : fs21.map placeF = pla21 := by kernel_rfl
def pla22 : List (Option String) := [none, none, none, none, none, none, none, none, none, none, none, none, none, none, none, none, none, none, none, none, none, none, none, none, none, none, none, none, none, none, none, none, none, none]
theorem pla22_is : fs22.map placeF = pla22 := by kernel_rfl
def pla23 : List (Option String) := [none, none, none, none, none, none, none, none, none, none, none, none, none, none, none, none, none, none, none, none, none, none, none, none, none, none, none, none, none, none, none, none, none, none]
theorem pla23_is : fs23.map placeF = pla23 := by kernel_rfl
def pla24 : List (Option String) := [none, none, none, none, none, none, none, none, none, none, none, none, none, none, none, none, none, none, none, none, none, none, none, none, none, none, none, none, none, none, none, none, none, none]
theorem pla24_is : fs24.map placeF = pla24 := by kernel_rfl
def pla25 : List (Option String) := [none, none, none, none, none, none, none, none, none, none, none, none, none, none, none, none, none, none, none, none, none, none, none, none, none, none, none, none, none, none, none, none, none, none]
theorem pla25_is : fs25.map placeF = pla25 := by kernel_rfl
def pla26 : List (Option String) := [none, none, none, none, none, none, none, none, none, none, none, none, none, none, none, none, none, none, none, none, none, none, none, none, none, none, none, none, none, none, none, none, none, none]
theorem pla26_is : fs26.map placeF = pla26 := by kernel_rfl
def pla27 : List (Option String) := [none, none, none, none, none, none, none, none, none, none, none, none, none, none, none, none, none, none, none, none, none, none, none, none, none, none, none, none, none, none, none, none, none, none]
theorem pla27_is : fs27.map placeF = pla27 := by kernel_rfl
def pla28 : List (Option String) := [none, none, none, none, none, none, none, none, none, none, none, none, none, none, none, none, none, none, none, none, none, none, none, none, none, none, none, none, none, none, none, none, none, none]
theorem pla28_is : fs28.map placeF = pla28 := by kernel_rfl
def pla29 : List (Option String) := [none, none, none, none, none, none, none, none, none, none, none, none, none, none, none, none, none, none, none, none, none, none, none, none, none, none, none, none, none, none, none, none, none, none]
theorem pla29_is : fs29.map placeF = pla29 := by kernel_rfl
def pla30 : List (Option String) := [none, none, none, none, none, none, none, none, none, none, none, none, none, none, none, none, none, none, none, none, none, none, none, none, none, none, none, none, none, none, none, none, none, none]
theorem pla30_is : fs30.map placeF = pla30 := by kernel_rfl
def pla31 : List (Option String) := [none, none, none, none, none, none, none, none, none, none, none, none, none, none, none, none, none, none, none, none, none, none, none, none, none, none, some "(runtime.boundsError).Error", some "(runtime.boundsError).RuntimeError", some "(runtime.errorString).Error", some "(runtime.errorString).RuntimeError", some "(runtime.plainError).Error", some "(runtime.plainError).RuntimeError", some "(runtime.errorAddressString).Error", some "(runtime.errorAddressString).RuntimeError"]
theorem pla31_is : fs31.map placeF = pla31 := by kernel_rfl
def pla32 : List (Option String) := [some "(*runtime.TypeAssertionError).Error", some "(*runtime.TypeAssertionError).RuntimeError", some "(*runtime.PanicNilError).Error", some "(*runtime.PanicNilError).RuntimeError", some "(*internal/abi.Type).Align", some "(internal/runtime/maps.unhashableTypeError).Error", some "(internal/runtime/maps.unhashableTypeError).RuntimeError", some "(*dumbwaiter/dumbmake.Stream).Int", some "(*strings.Builder).Reset", some "(*dumbwaiter/store.Store).Commits", some "(internal/strconv.Error).Error", some "(*strconv.NumError).Error", none, none, none, none, none, none, none, none, none, none, none, some "(*dumbwaiter/store.Txn).all", some "(*errors.errorString).Error", some "(internal/abi.Kind).String", some "var's door: unicode.White_Space holds what its initialiser lays, and nothing in the loaded text writes it or what it leads to (look 11-elder)", some "var's door: unicode._White_Space holds what its initialiser lays, and nothing in the loaded text writes it or what it leads to (look 11-elder)", some "var's door: gosem.cut.vars holds initialisers alone; see the manifest's row cutvarsword (look 11, test files too)", some "var's door: internal/strconv.uint64pow10 is laid by its own initialiser, plain data (look 11)", some "var's door: math/bits.deBruijn32tab is laid by its own initialiser, plain data (look 11)", some "var's door: math/bits.deBruijn64tab is laid by its own initialiser, plain data (look 11)", some "var's door: strconv.ErrRange is laid by its own call of errors.New on one literal (look 11)", some "var's door: strconv.ErrSyntax is laid by its own call of errors.New on one literal (look 11)"]
theorem pla32_is : fs32.map placeF = pla32 := by kernel_rfl
def pla33 : List (Option String) := [some "var's door: strings.asciiSpace is laid by its own initialiser, plain data (look 11)", some "var's door: the look of gosem.cut.vars went over the folder that the caller named as the repository's root (look 11)", some "var's door: unicode.CaseRanges is laid by its text alone (pinned 1)", some "var's door: unicode.White_Space is laid by its own initialiser, on the list of Go's own tables (list 10)", some "var's door: unicode._White_Space is laid by its own initialiser, on the list of Go's own tables (list 10)", some "var's door: unicode/utf8.acceptRanges is laid by its own initialiser, plain data (look 11)", some "var's door: unicode/utf8.first is laid by its text alone (pinned 1)", none]
theorem pla33_is : fs33.map placeF = pla33 := by kernel_rfl
def plas : List (List (Option String)) := [pla0, pla1, pla2, pla3, pla4, pla5, pla6, pla7, pla8, pla9, pla10, pla11, pla12, pla13, pla14, pla15, pla16, pla17, pla18, pla19, pla20, pla21, pla22, pla23, pla24, pla25, pla26, pla27, pla28, pla29, pla30, pla31, pla32, pla33]
theorem place_all : Tryz.prog.funcs.toList.map placeF = plas.flatten := map_all _ pla0_is pla1_is pla2_is pla3_is pla4_is pla5_is pla6_is pla7_is pla8_is pla9_is pla10_is pla11_is pla12_is pla13_is pla14_is pla15_is pla16_is pla17_is pla18_is pla19_is pla20_is pla21_is pla22_is pla23_is pla24_is pla25_is pla26_is pla27_is pla28_is pla29_is pla30_is pla31_is pla32_is pla33_is
def globF (fn : Func) : List Nat := fn.body.elim [] Code.globalsNamed
def glo0 : List (List Nat) := [[], [], [], [], [], [], [], [], [], [], [], [], [], [], [], [], [], [], [], [], [], [], [], [], [], [], [], [], [], [], [], [], [], []]
theorem glo0_is : fs0.map globF = glo0 := by kernel_rfl
def glo1 : List (List Nat) := [[], [], [], [], [], [], [], [], [], [], [], [], [], [], [], [], [], [], [], [], [], [], [], [], [], [], [], [], [], [], [], [], [], []]
theorem glo1_is : fs1.map globF = glo1 := by kernel_rfl
def glo2 : List (List Nat) := [[], [], [], [], [], [], [], [], [], [], [], [], [], [], [], [], [], [0, 0, 0], [], [], [], [], [], [], [], [], [], [], [], [], [], [], [], []]
theorem glo2_is : fs2.map globF = glo2 := by kernel_rfl
def glo3 : List (List Nat) := [[], [], [], [], [], [], [], [], [], [], [], [], [], [], [], [], [], [], [], [], [], [], [], [], [], [], [], [], [], [], [], [], [], []]
theorem glo3_is : fs3.map globF = glo3 := by kernel_rfl
def glo4 : List (List Nat) := [[], [], [], [], [], [], [], [], [], [], [], [], [], [], [], [], [], [], [], [], [], [], [], [], [], [1, 2], [], [], [], [], [], [3], [], []]
theorem glo4_is : fs4.map globF = glo4 := by kernel_rfl
def glo5 : List (List Nat) := [[], [], [], [], [], [], [], [], [], [4, 4, 4, 4], [], [], [], [], [], [], [], [], [], [], [], [], [], [], [], [], [], [], [], [], [], [], [], []]
theorem glo5_is : fs5.map globF = glo5 := by kernel_rfl
def glo6 : List (List Nat) := [[], [], [], [], [], [], [], [], [], [], [], [], [], [], [], [], [], [], [], [], [], [], [], [], [], [], [], [], [], [], [], [], [], []]
theorem glo6_is : fs6.map globF = glo6 := by kernel_rfl
def glo7 : List (List Nat) := [[], [], [], [], [], [], [], [], [], [], [], [], [], [], [], [], [], [], [], [], [], [], [], [], [], [], [], [], [], [], [], [], [], []]
theorem glo7_is : fs7.map globF = glo7 := by kernel_rfl
def glo8 : List (List Nat) := [[], [], [], [], [], [], [], [], [], [], [], [], [], [], [], [], [], [], [], [], [], [], [], [], [], [], [], [], [], [], [], [], [], []]
theorem glo8_is : fs8.map globF = glo8 := by kernel_rfl
def glo9 : List (List Nat) := [[], [], [], [5], [], [], [], [], [], [], [], [], [], [], [], [], [], [], [], [], [], [], [], [], [], [], [], [], [], [], [], [], [], []]
theorem glo9_is : fs9.map globF = glo9 := by kernel_rfl
def glo10 : List (List Nat) := [[], [], [], [], [], [], [], [], [], [], [], [], [], [], [], [], [], [], [6], [7], [], [], [], [], [], [], [], [], [], [], [], [], [], []]
theorem glo10_is : fs10.map globF = glo10 := by kernel_rfl
def glo11 : List (List Nat) := [[], [], [], [], [], [], [], [], [], [], [], [], [], [], [], [], [], [], [], [], [], [], [], [], [], [], [], [], [], [], [], [], [], []]
theorem glo11_is : fs11.map globF = glo11 := by kernel_rfl
def glo12 : List (List Nat) := [[], [], [], [], [], [], [], [], [], [], [8], [9], [], [], [], [], [], [], [], [], [], [], [], [], [], [], [], [], [], [], [], [], [], []]
theorem glo12_is : fs12.map globF = glo12 := by kernel_rfl
def glo13 : List (List Nat) := [[], [], [], [], [], [], [], [], [], [], [], [], [], [], [], [], [], [], [], [], [], [], [], [], [], [], [], [], [], [], [], [], [], []]
theorem glo13_is : fs13.map globF = glo13 := by kernel_rfl
def glo14 : List (List Nat) := [[], [], [], [], [], [], [], [], [], [], [], [], [], [], [], [], [], [], [], [], [], [], [], [], [], [], [], [], [], [], [], [], [], []]
theorem glo14_is : fs14.map globF = glo14 := by kernel_rfl
def glo15 : List (List Nat) := [[], [], [], [], [], [], [], [], [], [], [], [], [], [], [], [], [], [], [], [], [], [], [], [], [], [], [], [], [], [], [], [], [], []]
theorem glo15_is : fs15.map globF = glo15 := by kernel_rfl
def glo16 : List (List Nat) := [[], [], [], [], [], [], [], [], [], [], [], [], [], [], [], [], [], [], [], [], [], [], [], [], [], [], [], [], [], [], [], [], [], []]
theorem glo16_is : fs16.map globF = glo16 := by kernel_rfl
def glo17 : List (List Nat) := [[], [], [], [], [], [], [], [], [], [], [], [], [], [], [], [], [], [], [], [], [], [], [], [], [], [], [], [], [], [], [], [], [], []]
theorem glo17_is : fs17.map globF = glo17 := by kernel_rfl
def glo18 : List (List Nat) := [[], [], [], [], [], [], [], [], [], [], [], [], [], [], [], [], [], [], [], [], [], [], [], [], [], [], [], [], [], [], [], [], [], []]
theorem glo18_is : fs18.map globF = glo18 := by kernel_rfl
def glo19 : List (List Nat) := [[], [], [], [], [], [], [], [], [], [], [], [], [], [], [], [], [], [], [], [], [], [], [], [], [], [], [], [], [], [], [], [], [], []]
theorem glo19_is : fs19.map globF = glo19 := by kernel_rfl
def glo20 : List (List Nat) := [[], [], [], [], [], [], [], [], [], [], [], [], [], [], [], [], [], [], [], [], [], [], [], [], [], [], [], [], [], [], [], [], [], []]
theorem glo20_is : fs20.map globF = glo20 := by kernel_rfl
def glo21 : List (List Nat) := [[], [], [], [], [], [], [], [], [], [], [], [], [], [], [], [], [], [], [], [], [], [], [], [], [], [], [], [], [], [], [], [], [], []]
theorem glo21_is : fs21.map globF = glo21 := by kernel_rfl
def glo22 : List (List Nat) := [[], [], [], [], [], [], [], [], [], [], [], [], [], [], [], [], [], [], [], [], [], [], [], [], [], [], [], [], [], [], [], [], [], []]
theorem glo22_is : fs22.map globF = glo22 := by kernel_rfl
def glo23 : List (List Nat) := [[], [], [], [], [], [], [], [], [], [], [], [], [], [], [], [], [], [], [], [], [], [], [], [], [], [], [], [], [], [], [], [], [], []]
theorem glo23_is : fs23.map globF = glo23 := by kernel_rfl
def glo24 : List (List Nat) := [[], [], [], [], [], [], [], [], [], [], [], [], [], [], [], [], [], [], [], [], [], [], [], [], [], [], [], [], [], [], [], [], [], []]
theorem glo24_is : fs24.map globF = glo24 := by kernel_rfl
def glo25 : List (List Nat) := [[], [], [], [], [], [], [], [], [], [], [], [], [], [], [], [], [], [], [], [], [], [], [], [], [], [], [], [], [], [], [], [], [], []]
theorem glo25_is : fs25.map globF = glo25 := by kernel_rfl
def glo26 : List (List Nat) := [[], [], [], [], [], [], [], [], [], [], [], [], [], [], [], [], [], [], [], [], [], [], [], [], [], [], [], [], [], [], [], [], [], []]
theorem glo26_is : fs26.map globF = glo26 := by kernel_rfl
def glo27 : List (List Nat) := [[], [], [], [], [], [], [], [], [], [], [], [], [], [], [], [], [], [], [], [], [], [], [], [], [], [], [], [], [], [], [], [], [], []]
theorem glo27_is : fs27.map globF = glo27 := by kernel_rfl
def glo28 : List (List Nat) := [[], [], [], [], [], [], [], [], [], [], [], [], [], [], [], [], [], [], [], [], [], [], [], [], [], [], [], [], [], [], [], [], [], []]
theorem glo28_is : fs28.map globF = glo28 := by kernel_rfl
def glo29 : List (List Nat) := [[], [], [], [], [], [], [], [], [], [], [], [], [], [], [], [], [], [], [], [], [], [], [], [], [], [], [], [], [], [], [], [], [], []]
theorem glo29_is : fs29.map globF = glo29 := by kernel_rfl
def glo30 : List (List Nat) := [[], [], [], [], [], [], [], [], [], [], [], [], [], [], [], [], [], [], [], [], [10], [], [], [], [], [], [], [], [], [], [], [], [], []]
theorem glo30_is : fs30.map globF = glo30 := by kernel_rfl
def glo31 : List (List Nat) := [[], [], [], [], [], [], [], [], [], [], [], [], [], [], [], [], [], [], [], [], [], [], [], [], [], [], [], [], [], [], [], [], [], []]
theorem glo31_is : fs31.map globF = glo31 := by kernel_rfl
def glo32 : List (List Nat) := [[], [], [], [], [], [], [], [], [], [], [], [], [], [], [], [], [], [], [], [], [], [], [], [], [], [], [], [], [], [], [], [], [], []]
theorem glo32_is : fs32.map globF = glo32 := by kernel_rfl
def glo33 : List (List Nat) := [[], [], [], [], [], [], [], [8, 9, 3, 2, 7, 6, 11, 11, 5, 4]]
theorem glo33_is : fs33.map globF = glo33 := by kernel_rfl
def glos : List (List (List Nat)) := [glo0, glo1, glo2, glo3, glo4, glo5, glo6, glo7, glo8, glo9, glo10, glo11, glo12, glo13, glo14, glo15, glo16, glo17, glo18, glo19, glo20, glo21, glo22, glo23, glo24, glo25, glo26, glo27, glo28, glo29, glo30, glo31, glo32, glo33]
theorem glob_all : Tryz.prog.funcs.toList.map globF = glos.flatten := map_all _ glo0_is glo1_is glo2_is glo3_is glo4_is glo5_is glo6_is glo7_is glo8_is glo9_is glo10_is glo11_is glo12_is glo13_is glo14_is glo15_is glo16_is glo17_is glo18_is glo19_is glo20_is glo21_is glo22_is glo23_is glo24_is glo25_is glo26_is glo27_is glo28_is glo29_is glo30_is glo31_is glo32_is glo33_is
def readF (fn : Func) : Option String := if fn.body.isNone then entryReads.lookup fn.name else none
def rea0 : List (Option String) := [none, none, none, none, none, none, none, none, none, none, none, none, none, none, none, none, none, none, none, none, none, none, none, none, none, none, none, none, none, none, none, none, none, none]
theorem rea0_is : fs0.map readF = rea0 := by kernel_rfl
def rea1 : List (Option String) := [none, none, none, none, none, none, none, none, none, none, none, none, none, none, none, none, none, none, none, none, none, none, none, none, none, none, none, none, none, none, none, none, none, none]
theorem rea1_is : fs1.map readF = rea1 := by kernel_rfl
def rea2 : List (Option String) := [none, none, none, none, none, none, none, none, none, none, none, none, none, none, none, none, none, none, none, none, none, none, none, none, none, none, none, none, none, none, none, none, none, none]
theorem rea2_is : fs2.map readF = rea2 := by kernel_rfl
def rea3 : List (Option String) := [none, none, none, none, none, none, none, none, none, none, none, none, none, none, none, none, none, none, none, none, none, none, none, none, none, none, none, none, none, none, none, none, none, none]
theorem rea3_is : fs3.map readF = rea3 := by kernel_rfl
def rea4 : List (Option String) := [none, none, none, none, none, none, none, none, none, none, none, none, none, none, none, none, none, none, none, none, none, none, none, none, none, none, none, some "internal/bytealg.MaxLen", none, none, none, none, none, none]
theorem rea4_is : fs4.map readF = rea4 := by kernel_rfl
def rea5 : List (Option String) := [none, none, none, none, none, none, none, none, none, none, none, none, none, none, none, none, none, none, none, none, none, none, none, none, none, none, none, none, none, none, none, none, none, none]
theorem rea5_is : fs5.map readF = rea5 := by kernel_rfl
def rea6 : List (Option String) := [none, none, none, none, none, none, none, none, none, none, none, none, none, none, none, none, none, none, none, none, none, none, none, none, none, none, none, none, none, none, none, none, none, none]
theorem rea6_is : fs6.map readF = rea6 := by kernel_rfl
def rea7 : List (Option String) := [none, none, none, none, none, none, none, none, none, none, none, none, none, none, none, none, none, none, none, none, none, none, none, none, none, none, none, none, none, none, none, none, none, none]
theorem rea7_is : fs7.map readF = rea7 := by kernel_rfl
def rea8 : List (Option String) := [none, none, none, none, none, none, none, none, none, none, none, none, none, none, none, none, none, none, none, none, none, none, none, none, none, none, none, none, none, none, none, none, none, none]
theorem rea8_is : fs8.map readF = rea8 := by kernel_rfl
def rea9 : List (Option String) := [none, none, none, none, none, none, none, none, none, none, none, none, none, none, none, none, none, none, none, none, none, none, none, none, none, none, none, none, none, none, none, none, none, none]
theorem rea9_is : fs9.map readF = rea9 := by kernel_rfl
def rea10 : List (Option String) := [none, none, none, none, none, none, none, none, none, none, none, none, none, none, none, none, none, none, none, none, none, none, none, none, none, none, none, none, none, none, none, none, none, none]
theorem rea10_is : fs10.map readF = rea10 := by kernel_rfl
def rea11 : List (Option String) := [none, none, none, none, none, none, none, none, none, none, none, none, none, none, none, none, none, none, none, none, none, none, none, none, none, none, none, none, none, none, none, none, none, none]
theorem rea11_is : fs11.map readF = rea11 := by kernel_rfl
def rea12 : List (Option String) := [none, none, none, none, none, none, none, none, none, none, none, none, none, none, none, none, none, none, none, none, none, none, none, none, none, none, none, none, none, none, none, none, none, none]
theorem rea12_is : fs12.map readF = rea12 := by kernel_rfl
def rea13 : List (Option String) := [none, none, none, none, none, none, none, none, none, none, none, none, none, none, none, none, none, none, none, none, none, none, none, none, none, none, none, none, none, none, none, none, none, none]
theorem rea13_is : fs13.map readF = rea13 := by kernel_rfl
def rea14 : List (Option String) := [none, none, none, none, none, none, none, none, none, none, none, none, none, none, none, none, none, none, none, none, none, none, none, none, none, none, none, none, none, none, none, none, none, none]
theorem rea14_is : fs14.map readF = rea14 := by kernel_rfl
def rea15 : List (Option String) := [none, none, none, none, none, none, none, none, none, none, none, none, none, none, none, none, none, none, none, none, none, none, none, none, none, none, none, none, none, none, none, none, none, none]
theorem rea15_is : fs15.map readF = rea15 := by kernel_rfl
def rea16 : List (Option String) := [none, none, none, none, none, none, none, none, none, none, none, none, none, none, none, none, none, none, none, none, none, none, none, none, none, none, none, none, none, none, none, none, none, none]
theorem rea16_is : fs16.map readF = rea16 := by kernel_rfl
def rea17 : List (Option String) := [none, none, none, none, none, none, none, none, none, none, none, none, none, none, none, none, none, none, none, none, none, none, none, none, none, none, none, none, none, none, none, none, none, none]
theorem rea17_is : fs17.map readF = rea17 := by kernel_rfl
def rea18 : List (Option String) := [none, none, none, none, none, none, none, none, none, none, none, none, none, none, none, none, none, none, none, none, none, none, none, none, none, none, none, none, none, none, none, none, none, none]
theorem rea18_is : fs18.map readF = rea18 := by kernel_rfl
def rea19 : List (Option String) := [none, none, none, none, none, none, none, none, none, none, none, none, none, none, none, none, none, none, none, none, none, none, none, none, none, none, none, none, none, none, none, none, none, none]
theorem rea19_is : fs19.map readF = rea19 := by kernel_rfl
def rea20 : List (Option String) := [none, none, none, none, none, none, none, none, none, none, none, none, none, none, none, none, none, none, none, none, none, none, none, none, none, none, none, none, none, none, none, none, none, none]
theorem rea20_is : fs20.map readF = rea20 := by kernel_rfl
def rea21 : List (Option String) := [none, none, none, none, none, none, none, none, none, none, none, none, none, none, none, none, none, none, none, none, none, none, none, none, none, none, none, none, none, none, none, none, none, none]
theorem rea21_is : fs21.map readF = rea21 := by kernel_rfl
def rea22 : List (Option String) := [none, none, none, none, none, none, none, none, none, none, none, none, none, none, none, none, none, none, none, none, none, none, none, none, none, none, none, none, none, none, none, none, none, none]
theorem rea22_is : fs22.map readF = rea22 := by kernel_rfl
def rea23 : List (Option String) := [none, none, none, none, none, none, none, none, none, none, none, none, none, none, none, none, none, none, none, none, none, none, none, none, none, none, none, none, none, none, none, none, none, none]
theorem rea23_is : fs23.map readF = rea23 := by kernel_rfl
def rea24 : List (Option String) := [none, none, none, none, none, none, none, none, none, none, none, none, none, none, none, none, none, none, none, none, none, none, none, none, none, none, none, none, none, none, none, none, none, none]
theorem rea24_is : fs24.map readF = rea24 := by kernel_rfl
def rea25 : List (Option String) := [none, none, none, none, none, none, none, none, none, none, none, none, none, none, none, none, none, none, none, none, none, none, none, none, none, none, none, none, none, none, none, none, none, none]
theorem rea25_is : fs25.map readF = rea25 := by kernel_rfl
def rea26 : List (Option String) := [none, none, none, none, none, none, none, none, none, none, none, none, none, none, none, none, none, none, none, none, none, none, none, none, none, none, none, none, none, none, none, none, none, none]
theorem rea26_is : fs26.map readF = rea26 := by kernel_rfl
def rea27 : List (Option String) := [none, none, none, none, none, none, none, none, none, none, none, none, none, none, none, none, none, none, none, none, none, none, none, none, none, none, none, none, none, none, none, none, none, none]
theorem rea27_is : fs27.map readF = rea27 := by kernel_rfl
def rea28 : List (Option String) := [none, none, none, none, none, none, none, none, none, none, none, none, none, none, none, none, none, none, none, none, none, none, none, none, none, none, none, none, none, none, none, none, none, none]
theorem rea28_is : fs28.map readF = rea28 := by kernel_rfl
def rea29 : List (Option String) := [none, none, none, none, none, none, none, none, none, none, none, none, none, none, none, none, none, none, none, none, none, none, none, none, none, none, none, none, none, none, none, none, none, none]
theorem rea29_is : fs29.map readF = rea29 := by kernel_rfl
def rea30 : List (Option String) := [none, none, none, none, none, none, none, none, none, none, none, none, none, none, none, none, none, none, none, none, none, none, none, none, none, none, none, none, none, none, none, none, none, none]
theorem rea30_is : fs30.map readF = rea30 := by kernel_rfl
def rea31 : List (Option String) := [none, none, none, none, none, none, none, none, none, none, none, none, none, none, none, none, none, none, none, none, none, none, none, none, none, none, none, none, none, none, none, none, none, none]
theorem rea31_is : fs31.map readF = rea31 := by kernel_rfl
def rea32 : List (Option String) := [none, none, none, none, none, none, none, none, none, none, none, none, none, none, none, none, none, none, none, none, none, none, none, none, none, none, none, none, none, none, none, none, none, none]
theorem rea32_is : fs32.map readF = rea32 := by kernel_rfl
def rea33 : List (Option String) := [none, none, none, none, none, none, none, none]
theorem rea33_is : fs33.map readF = rea33 := by kernel_rfl
def reas : List (List (Option String)) := [rea0, rea1, rea2, rea3, rea4, rea5, rea6, rea7, rea8, rea9, rea10, rea11, rea12, rea13, rea14, rea15, rea16, rea17, rea18, rea19, rea20, rea21, rea22, rea23, rea24, rea25, rea26, rea27, rea28, rea29, rea30, rea31, rea32, rea33]
theorem read_all : Tryz.prog.funcs.toList.map readF = reas.flatten := map_all _ rea0_is rea1_is rea2_is rea3_is rea4_is rea5_is rea6_is rea7_is rea8_is rea9_is rea10_is rea11_is rea12_is rea13_is rea14_is rea15_is rea16_is rea17_is rea18_is rea19_is rea20_is rea21_is rea22_is rea23_is rea24_is rea25_is rea26_is rea27_is rea28_is rea29_is rea30_is rea31_is rea32_is rea33_is

/-! ### No goroutine -/

theorem goe0 : fs0.all (fun fn => !Func.goes fn) = true := by kernel_rfl
theorem goe1 : fs1.all (fun fn => !Func.goes fn) = true := by kernel_rfl
theorem goe2 : fs2.all (fun fn => !Func.goes fn) = true := by kernel_rfl
theorem goe3 : fs3.all (fun fn => !Func.goes fn) = true := by kernel_rfl
theorem goe4 : fs4.all (fun fn => !Func.goes fn) = true := by kernel_rfl
theorem goe5 : fs5.all (fun fn => !Func.goes fn) = true := by kernel_rfl
theorem goe6 : fs6.all (fun fn => !Func.goes fn) = true := by kernel_rfl
theorem goe7 : fs7.all (fun fn => !Func.goes fn) = true := by kernel_rfl
theorem goe8 : fs8.all (fun fn => !Func.goes fn) = true := by kernel_rfl
theorem goe9 : fs9.all (fun fn => !Func.goes fn) = true := by kernel_rfl
theorem goe10 : fs10.all (fun fn => !Func.goes fn) = true := by kernel_rfl
theorem goe11 : fs11.all (fun fn => !Func.goes fn) = true := by kernel_rfl
theorem goe12 : fs12.all (fun fn => !Func.goes fn) = true := by kernel_rfl
theorem goe13 : fs13.all (fun fn => !Func.goes fn) = true := by kernel_rfl
theorem goe14 : fs14.all (fun fn => !Func.goes fn) = true := by kernel_rfl
theorem goe15 : fs15.all (fun fn => !Func.goes fn) = true := by kernel_rfl
theorem goe16 : fs16.all (fun fn => !Func.goes fn) = true := by kernel_rfl
theorem goe17 : fs17.all (fun fn => !Func.goes fn) = true := by kernel_rfl
theorem goe18 : fs18.all (fun fn => !Func.goes fn) = true := by kernel_rfl
theorem goe19 : fs19.all (fun fn => !Func.goes fn) = true := by kernel_rfl
theorem goe20 : fs20.all (fun fn => !Func.goes fn) = true := by kernel_rfl
theorem goe21 : fs21.all (fun fn => !Func.goes fn) = true := by kernel_rfl
theorem goe22 : fs22.all (fun fn => !Func.goes fn) = true := by kernel_rfl
theorem goe23 : fs23.all (fun fn => !Func.goes fn) = true := by kernel_rfl
theorem goe24 : fs24.all (fun fn => !Func.goes fn) = true := by kernel_rfl
theorem goe25 : fs25.all (fun fn => !Func.goes fn) = true := by kernel_rfl
theorem goe26 : fs26.all (fun fn => !Func.goes fn) = true := by kernel_rfl
theorem goe27 : fs27.all (fun fn => !Func.goes fn) = true := by kernel_rfl
theorem goe28 : fs28.all (fun fn => !Func.goes fn) = true := by kernel_rfl
theorem goe29 : fs29.all (fun fn => !Func.goes fn) = true := by kernel_rfl
theorem goe30 : fs30.all (fun fn => !Func.goes fn) = true := by kernel_rfl
theorem goe31 : fs31.all (fun fn => !Func.goes fn) = true := by kernel_rfl
theorem goe32 : fs32.all (fun fn => !Func.goes fn) = true := by kernel_rfl
theorem goe33 : fs33.all (fun fn => !Func.goes fn) = true := by kernel_rfl
theorem goe_all : Tryz.prog.funcs.toList.all (fun fn => !Func.goes fn) = true := all_all _ goe0 goe1 goe2 goe3 goe4 goe5 goe6 goe7 goe8 goe9 goe10 goe11 goe12 goe13 goe14 goe15 goe16 goe17 goe18 goe19 goe20 goe21 goe22 goe23 goe24 goe25 goe26 goe27 goe28 goe29 goe30 goe31 goe32 goe33

end Go.Proofs.Big
