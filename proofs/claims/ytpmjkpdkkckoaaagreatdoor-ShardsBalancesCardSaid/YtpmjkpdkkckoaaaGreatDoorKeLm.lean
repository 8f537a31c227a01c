/- The abstract run is right: operations. No condition. -/
import Derived.Test.YtpmjkpdkkckoaaaGreatDoorKeK
namespace Go.Ke
open Go.RowKit (Below)

section
variable {P : Program} {N : Nat} {ρ : Loc} {σ : St} {w : World} {T : Tr Value} {a : Act}

theorem opRel_val {s : Sem Next} {s' : Sem Value} {u u' : Value} (hs : s = (do pure (.value (← s')))) (h1 : s'.run P w = .ok u' w) (h2 : VRel ρ u u') : OpRel P N ρ σ w s (.val u) := by
  refine ⟨u', ?_, h2⟩
  rw [hs]
  simp only [Sem.run_bind, h1, Result.andThen_ok, Sem.run_pure]

theorem eBin_sound (hr : Rel P N ρ σ w) {o : Oper} {op : BinOp} {t yt : TypeId} {x y : Operand} {r : ORes} (h : eBin P σ T o op t x y = some r) (ho : o.op = .binOp op t x y yt) (hx : ∀ z ∈ o.op.operands, ∀ s, z = .tmp s → TRs ρ T a s) :
    OpRel P N ρ σ w (execOp a.eval o) r := by
  have hex : execOp a.eval o = (do pure (.value (← (do eqGuard op t x y (a.eval x) (a.eval y); binOp op t (a.eval x) (a.eval y) : Sem Value))) : Sem Next) := by unfold execOp; rw [ho]
  have hxx : ∀ s, x = .tmp s → TRs ρ T a s := hx x (by rw [ho]; simp [Op.operands])
  have hyy : ∀ s, y = .tmp s → TRs ρ T a s := hx y (by rw [ho]; simp [Op.operands])
  have gen : eGeneric P σ T o = some r → OpRel P N ρ σ w (execOp a.eval o) r := fun hg => by
    obtain ⟨v, rfl, h1, h2⟩ := eGeneric_sound hr hg hx (by rw [ho]; intro cs b e; cases e)
    exact ⟨v, h1, h2⟩
  unfold eBin at h
  split at h
  · rename_i k m k' n hox hoy
    split at h
    · rename_i v hk hb
      cases h
      obtain rfl := of_decide_eq_true hk
      have h1 := opd_sound hr hox hxx
      have h2 := opd_sound hr hoy hyy
      obtain ⟨h3, h4⟩ := intBin_sound (P := P) hb t w
      refine opRel_val (s' := (do eqGuard op t x y (a.eval x) (a.eval y); binOp op t (a.eval x) (a.eval y) : Sem Value)) hex (u' := v) ?_ (plain1_rel ρ h4)
      generalize a.eval x = x' at *
      generalize a.eval y = y' at *
      cases h1
      cases h2
      simp only [Sem.run_bind, eqGuard_int, Result.andThen_ok, h3]
    · exact gen h
  · rename_i u v hne hox hoy
    have h1 := opd_sound hr hox hxx
    have h2 := opd_sound hr hoy hyy
    split at h
    · rename_i d hu
      split at h
      · rename_i b hb
        obtain ⟨g1, g2, g3⟩ := nilEq_sound (P := P) hu hb h1 h2 w x y op
        split at h
        · cases h
          exact opRel_val hex (by simp only [Sem.run_bind, g1, Result.andThen_ok, g2]) (.bool _)
        · cases h
          exact opRel_val hex (by simp only [Sem.run_bind, g1, Result.andThen_ok, g3]) (.bool _)
        · cases h
      · split at h
        · rename_i xs ys
          split at h
          · rename_i hgt
            split at h
            · rename_i b hb
              obtain ⟨g1, _⟩ := keyEq_sound hb h1 h2 w
              generalize a.eval x = x' at *
              generalize a.eval y = y' at *
              cases h1 with
              | agg _ xs' hs hc =>
                cases h2 with
                | agg _ ys' hs' hc' =>
                  have ge := run_eqGuard_agg w op t x y xs' ys' hgt
                  split at h
                  · cases h
                    refine opRel_val (u' := .bool b) hex ?_ (.bool _)
                    simp only [Sem.run_bind, ge, Result.andThen_ok, binOp, g1, Sem.run_pure]
                  · cases h
                    refine opRel_val (u' := .bool (!b)) hex ?_ (.bool _)
                    simp only [Sem.run_bind, ge, Result.andThen_ok, binOp, g1, Sem.run_pure]
                  · cases h
            · cases h
          · cases h
        · split at h
          · rename_i hs
            obtain ⟨g1, g2, g3⟩ := samePtr_sound (P := P) hu hs h1 h2 w x y op
            split at h
            · cases h
              exact opRel_val hex (by simp only [Sem.run_bind, g1, Result.andThen_ok, g2]) (.bool _)
            · cases h
              exact opRel_val hex (by simp only [Sem.run_bind, g1, Result.andThen_ok, g3]) (.bool _)
            · cases h
          · cases h
        · exact gen h
    · cases h
  · cases h

theorem eBuiltin_sound (hr : Rel P N ρ σ w) {o : Oper} {c : Call} {b : Builtin} {args args' : List Value} {r : ORes} (h : eBuiltin P σ T o b c.argTypes args = some r) (ho : o.op = .call c) (hb : c.callee = .builtin b)
    (hargs : LRel ρ args args') (he : args' = c.args.toList.map a.eval) (hx : ∀ z ∈ o.op.operands, ∀ s, z = .tmp s → TRs ρ T a s) : OpRel P N ρ σ w (execOp a.eval o) r := by
  have harr : c.args.map a.eval = args'.toArray := by apply Array.toList_inj.1; rw [he]; simp
  have hex : execOp a.eval o = builtin b c.argTypes o.type (c.args.map fun | .const _ => true | _ => false) args'.toArray := by
    have h1 : execOp a.eval o = (do let d ← resolve a.eval c o.type; invoke d.target d.args) := by unfold execOp; rw [ho]
    rw [h1]
    unfold resolve
    rw [hb, harr]
    rfl
  have gen : eGeneric P σ T o = some r → OpRel P N ρ σ w (execOp a.eval o) r := fun hg => by
    obtain ⟨v, rfl, h1, h2⟩ := eGeneric_sound hr hg hx (by rw [ho]; intro cs b e; cases e)
    exact ⟨v, h1, h2⟩
  unfold eBuiltin at h
  split at h
  · split at h
    · rename_i s x
      cases hargs with
      | cons h1 t1 => cases t1 with
        | cons h2 t2 => cases t2
                        rw [hex]
                        exact aAppend_sound (ty := o.type) hr h h1 h2
    · cases h
  · split at h
    · rename_i t y n cap ht
      split at h
      · rename_i e hu
        cases h
        cases hargs with
        | cons h1 t1 =>
          cases t1
          rw [hex]
          refine opRel_val (s' := Builtin.len_ c.argTypes o.type _) rfl ?_ (.int .i64 n)
          unfold Builtin.len_
          cases h1 <;> (simp only [ht, List.getElem?_toArray, List.getElem?_cons_zero, Sem.run_bind, run_underlying hu, Result.andThen_ok, goInt, Sem.run_pure]; try rfl)
      · cases h
    · rename_i t s ht
      split at h
      · rename_i hu
        cases h
        cases hargs with
        | cons h1 t1 =>
          cases t1
          cases h1
          rw [hex]
          have hsz : s.data.toList.length = s.size := by rw [Array.length_toList]; rfl
          refine opRel_val (s' := Builtin.len_ c.argTypes o.type _) rfl ?_ (.int .i64 _)
          unfold Builtin.len_
          simp only [ht, List.getElem?_toArray, List.getElem?_cons_zero, Sem.run_bind, run_underlying hu, Result.andThen_ok, goInt, Sem.run_pure, hsz]
      · cases h
    · rename_i t ht
      split at h
      · rename_i k e hu
        cases h
        cases hargs with
        | cons h1 t1 =>
          cases t1
          cases h1
          rw [hex]
          refine opRel_val (s' := Builtin.len_ c.argTypes o.type _) rfl ?_ (.int .i64 0)
          unfold Builtin.len_
          simp only [ht, List.getElem?_toArray, List.getElem?_cons_zero, Sem.run_bind, run_underlying hu, Result.andThen_ok, goInt, Sem.run_pure]
      · cases h
    · rename_i t k ht
      split at h
      · rename_i kt e es clock hu hmap
        cases h
        cases hargs with
        | cons h1 t1 =>
          cases t1
          cases h1 with
          | map _ p hp =>
            obtain ⟨hg, es', hb', hes⟩ := aMap_sound hr hmap hp
            have hgo := run_getMap (P := P) hb'
            have hl := hes.length
            have hsz : es'.toList.length = es'.size := by simp
            rw [hex]
            refine opRel_val (s' := Builtin.len_ c.argTypes o.type _) rfl ?_ (.int .i64 _)
            unfold Builtin.len_
            simp only [ht, List.getElem?_toArray, List.getElem?_cons_zero, Sem.run_bind, run_underlying hu, Result.andThen_ok, hgo, goInt, Sem.run_pure, hl, hsz]
      · cases h
    · exact gen h
  · split at h
    · rename_i t y n cap ht
      split at h
      · rename_i e hu hc
        cases h
        have hc : cap < unk := Nat.le_of_ble_eq_true hc
        cases hargs with
        | cons h1 t1 =>
          cases t1
          rw [hex]
          refine opRel_val (s' := Builtin.cap_ c.argTypes o.type _) rfl ?_ (.int .i64 cap)
          unfold Builtin.cap_
          cases h1 with
          | snil => simp only [ht, List.getElem?_toArray, List.getElem?_cons_zero, Sem.run_bind, run_underlying hu, Result.andThen_ok, goInt, Sem.run_pure]
          | slice _ _ _ _ p off' cap' hp hl ha hcc hs =>
            rw [hcc hc]
            simp only [ht, List.getElem?_toArray, List.getElem?_cons_zero, Sem.run_bind, run_underlying hu, Result.andThen_ok, goInt, Sem.run_pure]
      · cases h
    · cases h
  · split at h
    · rename_i d x
      cases hargs with
      | cons h1 t1 => cases t1 with
        | cons h2 t2 => cases t2
                        rw [hex]
                        exact eCopy_sound (ty := o.type) hr h h1 h2
    · cases h
  · split at h
    · rename_i t m key ht
      cases hargs with
      | cons h1 t1 => cases t1 with
        | cons h2 t2 => cases t2
                        rw [hex]
                        exact eDelete_sound (ty := o.type) hr ht h h1 h2
    · cases h
  · split at h
    · rename_i x
      cases hargs with
      | cons h1 t1 =>
        cases t1
        rw [hex]
        exact eClear_sound (ty := o.type) hr h h1
    · cases h
  · exact gen h
  · exact gen h
  · split at h
    · cases h
      cases hargs with
      | cons h1 t1 =>
        cases t1
        cases h1
        rw [hex]
        exact opRel_val (s' := Builtin.unsafeSliceData_ c.argTypes o.type _) rfl rfl .pnil
    · rename_i ad len cap
      split at h
      · rename_i hl
        cases h
        have hl : 0 < len := Nat.le_of_ble_eq_true hl
        cases hargs with
        | cons h1 t1 =>
          cases t1
          rw [hex]
          cases h1 with
          | slice k off _ _ p off' cap' hp hle ha hcc hs =>
            have h0 : cap' ≠ 0 := by omega
            have hoff := ha.resolve_left h0
            subst hoff
            obtain ⟨cc, rfl⟩ : ∃ cc, cap' = cc + 1 := ⟨cap' - 1, by omega⟩
            exact opRel_val (s' := Builtin.unsafeSliceData_ c.argTypes o.type _) rfl rfl (.ptr k off p hp)
      · cases h
    · cases h
  · split at h
    · rename_i pt q kd n ht
      split at h
      · cases h
        cases hargs with
        | cons h1 t1 => cases t1 with
          | cons h2 t2 =>
            cases t2
            cases h2
            rw [hex]
            refine opRel_val (s' := Builtin.unsafeString_ c.argTypes o.type _) rfl ?_ (.str _)
            cases h1 with
            | pnil => exact string_zero ht none kd
            | ptr k off p hp => exact string_zero ht _ kd
      · rename_i m
        split at h
        · rename_i bk off
          cases hargs with
          | cons h1 t1 => cases t1 with
            | cons h2 t2 =>
              cases t2
              cases h2
              cases h1 with
              | ptr _ _ p hp =>
                obtain ⟨v, w', σ', rfl, g1, gn, g2, g3⟩ := string_sound (ty := o.type) (kd := kd) hr ht h hp
                rw [hex]
                refine ⟨.value (.string v), .string v, w', ρ, ?_, .inl rfl, .same gn, .str _, g2, g3⟩
                show (do pure (Next.value (← Builtin.unsafeString_ c.argTypes o.type _)) : Sem Next).run P w = _
                simp only [Sem.run_bind]
                have g1' : (Builtin.unsafeString_ c.argTypes o.type [Value.pointer (some ⟨p.b, p.o + off, none⟩), Value.int kd (Int.ofNat (m + 1))].toArray).run P w = .ok (.string v) w' := g1
                rw [g1']
                rfl
        · cases h
    · cases h
  · cases h

theorem callMethod_run {t : TypeId} {v : Value} {name : String} {args : Array Value} {i : TypeInfo} {m : Method} {f : FuncId} {e : TypeId} (hi : P.info? t = some i) (hu : P.underlying t = some (.pointer e)) (hm : i.methods.toList.find? (fun m => m.name == name) = some m)
    (hp : m.path.toList = []) (hf : m.func = some (f, true)) : (callMethod (.iface t v) name args).run P w = (callFunc f (#[v] ++ args)).run P w := by
  have h0 : 0 < Made.depth := by decide
  obtain ⟨k, hk⟩ : ∃ k, P.types.size + Made.depth = k + 1 := ⟨P.types.size + Made.depth - 1, by omega⟩
  have hm' : i.methods.find? (fun m => m.name == name) = some m := by rw [← Array.find?_toList]; exact hm
  have hr : (method (P.types.size + Made.depth) t v name).run P w = .ok (f, v) w := by
    rw [hk]
    unfold method
    simp [run_typeInfo w hi, hm', hp, follow, hf, receiverAt, run_underlying hu, Place.get]
  unfold callMethod
  simp [hr]

theorem eCall_sound (hr : Rel P N ρ σ w) {o : Oper} {c : Call} {r : ORes} (h : eCall P σ T o c = some r) (ho : o.op = .call c) (hx : ∀ z ∈ o.op.operands, ∀ s, z = .tmp s → TRs ρ T a s) :
    OpRel P N ρ σ w (execOp a.eval o) r := by
  unfold eCall at h
  split at h
  · cases h
  · rename_i args hargs
    have hargs' := opds_sound (a := a) hr hargs (fun x hxm => hx x (by rw [ho]; simp only [Op.operands, Call.operands]; exact Array.mem_append.2 (.inr (by simpa using hxm))))
    split at h
    · rename_i b hb
      exact eBuiltin_sound hr h ho hb hargs' rfl hx
    · rename_i f hf
      split at h
      · rename_i g first captured hop
        cases h
        have hfv := opd_sound (a := a) hr hop (hx f (by rw [ho]; simp [Op.operands, Call.operands, hf]))
        generalize hfe : a.eval f = fv at hfv
        cases hfv with
        | fn _ _ _ first' captured' h1 h2 c1 c2 =>
          refine ⟨first'.toList ++ ((c.args.toList.map a.eval) ++ captured'.toList), ?_, (LRel.of_array h1 c1).append (hargs'.append (LRel.of_array h2 c2))⟩
          have hex : execOp a.eval o = callFunc g ((first' ++ c.args.map a.eval) ++ captured') := by
            have h1 : execOp a.eval o = (do let d ← resolve a.eval c o.type; invoke d.target d.args) := by unfold execOp; rw [ho]
            rw [h1]
            unfold resolve
            rw [hf]
            simp only [hfe]
            rfl
          rw [hex]
          congr 2
          apply Array.toList_inj.1
          simp
      · cases h
    · rename_i rc name hf
      unfold eInvoke at h
      split at h
      · rename_i t p hop
        split at h
        · rename_i i e hi hu
          split at h
          · rename_i m hm
            split at h
            · rename_i f hp hfn
              cases h
              have hrv := opd_sound (a := a) hr hop (hx rc (by rw [ho]; simp [Op.operands, Call.operands, hf]))
              generalize hre : a.eval rc = rv at hrv
              cases hrv with
              | iface _ _ v' hv =>
                refine ⟨v' :: c.args.toList.map a.eval, ?_, .cons hv hargs'⟩
                have hex : execOp a.eval o = callMethod (.iface t v') name (c.args.map a.eval) := by
                  have h1 : execOp a.eval o = (do let d ← resolve a.eval c o.type; invoke d.target d.args) := by unfold execOp; rw [ho]
                  rw [h1]
                  unfold resolve
                  rw [hf]
                  simp only [hre]
                  show invoke (.fn (.method name) #[]) (#[Value.iface t v'] ++ c.args.map a.eval) = _
                  unfold invoke
                  have e0 : (#[Value.iface t v'] ++ c.args.map a.eval)[0]? = some (Value.iface t v') := by
                    rw [Array.getElem?_append_left (by simp)]
                    rfl
                  simp only [e0]
                  have e1 : (#[Value.iface t v'] ++ c.args.map a.eval).extract 1 (#[Value.iface t v'] ++ c.args.map a.eval).size = c.args.map a.eval := by
                    apply Array.toList_inj.1
                    simp
                    exact List.take_of_length_le (by simp)
                  rw [e1]
                rw [hex, callMethod_run hi hu hm hp hfn]
                congr 2
                apply Array.toList_inj.1
                simp
            · cases h
          · cases h
        · cases h
      · cases h

theorem op_sound (hr : Rel P N ρ σ w) {o : Oper} {r : ORes} (hk : evalOpK P σ T o = some r) (hx : ∀ z ∈ o.op.operands, ∀ s, z = .tmp s → TRs ρ T a s) : OpRel P N ρ σ w (execOp a.eval o) r := by
  have h : evalOp P σ T o = some r := by rw [← evalOpK_eq]; exact hk
  clear hk
  have gen : eGeneric P σ T o = some r → (∀ cs b, o.op ≠ .select cs b) → OpRel P N ρ σ w (execOp a.eval o) r := fun hg hs => by
    obtain ⟨v, rfl, h1, h2⟩ := eGeneric_sound hr hg hx hs
    exact ⟨v, h1, h2⟩
  obtain ⟨dst, op, type, pos, after, guard⟩ := o
  cases op with
  | move x =>
    simp only [evalOp] at h
    split at h
    · rename_i v hv
      cases h
      exact ⟨a.eval x, rfl, opd_sound hr hv (hx x (by simp [Op.operands]))⟩
    · cases h
  | assign x =>
    simp only [evalOp] at h
    split at h
    · rename_i v hv
      cases h
      exact ⟨a.eval x, rfl, opd_sound hr hv (hx x (by simp [Op.operands]))⟩
    · cases h
  | pick c x y =>
    simp only [evalOp] at h
    split at h
    · rename_i v hc hv
      cases h
      have h1 := opd_sound (a := a) hr hc (hx c (by simp [Op.operands]))
      refine ⟨a.eval x, ?_, opd_sound hr hv (hx x (by simp [Op.operands]))⟩
      generalize hce : a.eval c = c' at h1
      cases h1
      show Sem.run P (do pure (.value (if ← asBool (a.eval c) then a.eval x else a.eval y)) : Sem Next) w = _
      rw [hce]
      rfl
    · rename_i v hc hy
      cases h
      have h1 := opd_sound (a := a) hr hc (hx c (by simp [Op.operands]))
      refine ⟨a.eval y, ?_, opd_sound hr hy (hx y (by simp [Op.operands]))⟩
      generalize hce : a.eval c = c' at h1
      cases h1
      show Sem.run P (do pure (.value (if ← asBool (a.eval c) then a.eval x else a.eval y)) : Sem Next) w = _
      rw [hce]
      rfl
    · cases h
  | alloc e =>
    simp only [evalOp] at h
    split at h
    · rename_i z hz
      cases h
      exact eAlloc_sound hz
    · cases h
  | box e x =>
    simp only [evalOp] at h
    split at h
    · rename_i v hv
      cases h
      exact eBox_sound (opd_sound hr hv (hx x (by simp [Op.operands])))
    · cases h
  | build t parts =>
    obtain ⟨v, v', rfl, h1, h2⟩ := eBuild_sound hr h (fun x hxm => hx x.2 (by simp only [Op.operands]; simp; exact ⟨x.1, by simpa using hxm⟩))
    exact opRel_val rfl h1 h2
  | buildSlice t len parts => exact eBuildSlice_sound hr h (fun x hxm => hx x.2 (by simp only [Op.operands]; simp; exact ⟨x.1, by simpa using hxm⟩))
  | load t x =>
    simp only [evalOp] at h
    split at h
    · rename_i v hv
      have h1 := opd_sound (a := a) hr hv (hx x (by simp [Op.operands]))
      have hval : ∃ u, r = .val u := by
        unfold eLoad at h
        split at h
        · split at h
          · cases h
          · split at h
            · split at h
              · cases h; exact ⟨_, rfl⟩
              · cases h
            · split at h
              · cases h; exact ⟨_, rfl⟩
              · cases h
        · cases h
      obtain ⟨u, rfl⟩ := hval
      obtain ⟨u', h2, h3, _⟩ := eLoad_sound hr h h1
      exact opRel_val rfl h2 h3
    · cases h
  | store t x y =>
    simp only [evalOp] at h
    split at h
    · rename_i v u hv hu
      exact eStore_sound hr h (opd_sound hr hv (hx x (by simp [Op.operands]))) (opd_sound hr hu (hx y (by simp [Op.operands])))
    · cases h
  | nilCheck x =>
    simp only [evalOp] at h
    split at h
    · rename_i q hq
      cases h
      have h1 := opd_sound (a := a) hr hq (hx x (by simp [Op.operands]))
      refine ⟨a.eval x, ?_, h1⟩
      unfold execOp
      simp only
      generalize a.eval x = x' at h1
      cases h1
      rfl
    · rename_i f u v hq
      cases h
      have h1 := opd_sound (a := a) hr hq (hx x (by simp [Op.operands]))
      refine ⟨a.eval x, ?_, h1⟩
      unfold execOp
      simp only
      generalize a.eval x = x' at h1
      cases h1
      rfl
    · cases h
  | binOp op t x y yt => exact eBin_sound (yt := yt) hr h rfl hx
  | unOp op t x =>
    cases op with
    | not =>
      simp only [evalOp] at h
      split at h
      · rename_i b hb
        cases h
        have h1 := opd_sound (a := a) hr hb (hx x (by simp [Op.operands]))
        refine opRel_val (s' := Op.unary .not (a.eval x)) (u' := .bool (!b)) rfl ?_ (.bool _)
        generalize a.eval x = x' at h1
        cases h1
        rfl
      · cases h
    | _ => exact gen h (by intro cs b e; cases e)
  | makeFunc fn first captured =>
    cases fn with
    | func f =>
      simp only [evalOp] at h
      split at h
      · rename_i u v hu hv
        cases h
        have h1 := opds_sound (a := a) hr hu (fun x hxm => hx x (by simp only [Op.operands]; exact Array.mem_append.2 (.inl (by simpa using hxm))))
        have h2 := opds_sound (a := a) hr hv (fun x hxm => hx x (by simp only [Op.operands]; exact Array.mem_append.2 (.inr (by simpa using hxm))))
        obtain ⟨g1, g2⟩ := h1.to_array
        obtain ⟨g3, g4⟩ := h2.to_array
        refine opRel_val (s' := Instr.makeFunc (.func f) (first.map a.eval) (captured.map a.eval)) (u' := .func (.func f) (first.toList.map a.eval).toArray (captured.toList.map a.eval).toArray) rfl ?_ (.fn f _ _ _ _ g1 g3 g2 g4)
        show Result.ok _ w = _
        congr 2
        · apply Array.toList_inj.1; simp
        · apply Array.toList_inj.1; simp
      · cases h
    | _ => exact gen h (by intro cs b e; cases e)
  | makeMap t res =>
    cases res with
    | none =>
      simp only [evalOp] at h
      split at h
      · cases h; exact eMakeMap_sound t
      · cases h
    | some x => exact gen h (by intro cs b e; cases e)
  | makeSlice t l c =>
    simp only [evalOp] at h
    split at h
    · rename_i u v hu hv
      exact eMakeSlice_sound h (opd_sound hr hu (hx l (by simp [Op.operands]))) (opd_sound hr hv (hx c (by simp [Op.operands])))
    · cases h
  | slice t x lo hi mx =>
    simp only [evalOp] at h
    split at h
    · rename_i v hv
      obtain ⟨u, u', rfl, h1, h2⟩ := eSlice_sound (a := a) hr h (opd_sound hr hv (hx x (by simp [Op.operands])))
        (fun o ho => hx o (by subst ho; simp [Op.operands])) (fun o ho => hx o (by subst ho; simp [Op.operands])) (fun o ho => hx o (by subst ho; simp [Op.operands]))
      exact opRel_val rfl h1 h2
    · cases h
  | fieldAddr s x f =>
    simp only [evalOp] at h
    split at h
    · rename_i v hv
      obtain ⟨u, u', rfl, h1, h2⟩ := eFieldAddr_sound (w := w) h (opd_sound (a := a) hr hv (hx x (by simp [Op.operands])))
      exact opRel_val rfl h1 h2
    · cases h
  | field t x f =>
    simp only [evalOp] at h
    split at h
    · rename_i v hv
      obtain ⟨u, u', rfl, h1, h2⟩ := eField_sound (w := w) h (opd_sound (a := a) hr hv (hx x (by simp [Op.operands])))
      exact opRel_val rfl h1 h2
    · cases h
  | indexAddr t x i =>
    simp only [evalOp] at h
    split at h
    · rename_i v n hv hn
      obtain ⟨u, u', rfl, h1, h2⟩ := eIndexAddr_sound (w := w) h (opd_sound (a := a) hr hv (hx x (by simp [Op.operands]))) (opd_sound (a := a) hr hn (hx i (by simp [Op.operands])))
      exact opRel_val rfl h1 h2
    · cases h
  | index t x i =>
    simp only [evalOp] at h
    split at h
    · rename_i v n hv hn
      obtain ⟨u, u', rfl, h1, h2⟩ := eIndex_sound (x := x) (y := i) hr h rfl (opd_sound (a := a) hr hv (hx x (by simp [Op.operands]))) (opd_sound (a := a) hr hn (hx i (by simp [Op.operands]))) hx
      exact ⟨u', h1, h2⟩
    · cases h
  | lookup t x i ok =>
    simp only [evalOp] at h
    split at h
    · rename_i v n hv hn
      obtain ⟨u, u', rfl, h1, h2⟩ := eLookup_sound hr h (opd_sound (a := a) hr hv (hx x (by simp [Op.operands]))) (opd_sound (a := a) hr hn (hx i (by simp [Op.operands])))
      exact opRel_val rfl h1 h2
    · cases h
  | mapUpdate t m k x =>
    simp only [evalOp] at h
    split at h
    · rename_i u v y hu hv hy
      exact eUpdate_sound hr h (opd_sound hr hu (hx m (by simp [Op.operands]))) (opd_sound hr hv (hx k (by simp [Op.operands]))) (opd_sound hr hy (hx x (by simp [Op.operands])))
    · cases h
  | insert t m k x =>
    simp only [evalOp] at h
    split at h
    · rename_i u v y hu hv hy
      exact eUpdate_sound hr h (opd_sound hr hu (hx m (by simp [Op.operands]))) (opd_sound hr hv (hx k (by simp [Op.operands]))) (opd_sound hr hy (hx x (by simp [Op.operands])))
    · cases h
  | mapEntry t m k =>
    simp only [evalOp] at h
    split at h
    · rename_i u v hu hv
      exact eMapEntry_sound hr h (opd_sound hr hu (hx m (by simp [Op.operands]))) (opd_sound hr hv (hx k (by simp [Op.operands])))
    · cases h
  | entryStore t m s x =>
    simp only [evalOp] at h
    split at h
    · rename_i u v y hu hv hy
      exact eEntryStore_sound hr h (opd_sound hr hu (hx m (by simp [Op.operands]))) (opd_sound hr hv (hx s (by simp [Op.operands]))) (opd_sound hr hy (hx x (by simp [Op.operands])))
    · cases h
  | range t x =>
    simp only [evalOp] at h
    split at h
    · rename_i v hv
      exact eRange_sound hr h (opd_sound hr hv (hx x (by simp [Op.operands])))
    · cases h
  | next it isString =>
    simp only [evalOp] at h
    split at h
    · rename_i v hv
      exact eNext_sound hr h (opd_sound hr hv (hx it (by simp [Op.operands])))
    · cases h
  | entry it =>
    simp only [evalOp] at h
    split at h
    · rename_i v hv
      obtain ⟨u, u', rfl, h1, h2⟩ := eEntry_sound hr h (opd_sound (a := a) hr hv (hx it (by simp [Op.operands])))
      exact opRel_val rfl h1 h2
    · cases h
  | extract x i =>
    simp only [evalOp] at h
    split at h
    · rename_i vs hv
      split at h
      · rename_i v hg
        cases h
        have h1 := opd_sound (a := a) hr hv (hx x (by simp [Op.operands]))
        generalize hxe : a.eval x = x' at h1
        cases h1 with
        | tuple _ ys hs hc =>
          obtain ⟨y, hy, hrel⟩ := (LRel.of_array hs hc).get i v (lget_mem hg)
          refine opRel_val (s' := Instr.extract (a.eval x) i) (u' := y) rfl ?_ hrel
          rw [hxe]
          unfold Instr.extract
          simp only
          rw [show ys[i]? = some y by rw [← Array.getElem?_toList]; exact hy]
          rfl
      · cases h
    · cases h
  | makeInterface t x =>
    simp only [evalOp] at h
    split at h
    · cases h
    · rename_i d v hni hu hv
      cases h
      refine opRel_val (s' := Instr.makeInterface t (a.eval x)) (u' := .iface t (a.eval x)) rfl ?_ (.iface t _ _ (opd_sound hr hv (hx x (by simp [Op.operands]))))
      unfold Instr.makeInterface
      simp only [Sem.run_bind, run_underlying hu, Result.andThen_ok]
      cases d <;> first | rfl | exact absurd rfl (hni _)
    · cases h
  | convert src dst x =>
    simp only [evalOp] at h
    split at h
    · rename_i v hv
      have hvr := opd_sound hr hv (hx x (by simp [Op.operands]))
      unfold eConvert at h
      split at h
      · rename_i s
        generalize hy : a.eval x = y at hvr
        cases hvr
        split at h
        · rename_i d e h1 h2
          split at h
          · rename_i h3
            split at h
            · rename_i h4
              cases h
              obtain ⟨ob, v', w', g1, g2, g3, g4, g5, g6, g7⟩ := toBytes_sound hr h1 h2 h3 (Nat.eq_of_beq_eq_true h4) s
              refine ⟨ob, v', w', ?_, g2, g3, g4, g5, g6, g7⟩
              show (do pure (Next.value (← convert src dst (a.eval x))) : Sem Next).run P w = _
              rw [hy]
              simp only [Sem.run_bind, g1, Result.andThen_ok, Sem.run_pure]
            · cases h
          · cases h
        · exact gen h (by intro cs b e; cases e)
      · rename_i k off len cap
        split at h
        · rename_i e h1 h2
          split at h
          · rename_i h3
            split at h
            · rename_i l hl
              split at h
              · rename_i b hb
                cases h
                have g := toString_sound hr h1 h2 h3 hl hb hvr
                exact opRel_val (s' := convert src dst (a.eval x)) rfl g (.str _)
              · cases h
            · cases h
          · cases h
        · cases h
      · rename_i k off
        generalize hy : a.eval x = y at hvr
        cases hvr with
        | ptr _ _ p hp =>
          obtain ⟨rfl, g⟩ := unsafe_sound hr h hp
          refine opRel_val (s' := convert src dst (a.eval x)) rfl ?_ (.ptr k off p hp)
          rw [hy]
          exact g
      · exact gen h (by intro cs b e; cases e)
    · cases h
  | call c => exact eCall_sound hr h rfl hx
  | select cs b => cases h
  | _ => exact gen h (by intro cs b e; cases e)

end
end Go.Ke

namespace Go.Ke
open Go.RowKit (Below)

/-- A deferred call. -/
def DfrRel (ρ : Loc) (v : Value) (d : Deferred) : Prop :=
  ∃ (f : FuncId) (xs ys xs' ys' : List Value), v = .func (.func f) xs.toArray ys.toArray ∧ d = { target := .fn (.func f) ys'.toArray, args := xs'.toArray } ∧ LRel ρ xs xs' ∧ LRel ρ ys ys'

theorem DfrRel.mono {ρ ρ' : Loc} (hle : ρ.le ρ') {v : Value} {d : Deferred} (h : DfrRel ρ v d) : DfrRel ρ' v d := by
  obtain ⟨f, xs, ys, xs', ys', h1, h2, h3, h4⟩ := h
  exact ⟨f, xs, ys, xs', ys', h1, h2, h3.mono hle, h4.mono hle⟩

/-- The deferred calls of a frame, the latest first. -/
def DRel (ρ : Loc) (l : List Value) (d : List Deferred) : Prop := F2 (DfrRel ρ) l d

theorem DRel.mono {ρ ρ' : Loc} {l : List Value} {d : List Deferred} (h : DRel ρ l d) (hle : ρ.le ρ') : DRel ρ' l d := by
  unfold DRel at *
  induction h with
  | nil => exact .nil
  | cons hxy _ ih => exact .cons (hxy.mono hle) ih

/-- The abstract frame and the true one. -/
structure TFull (ρ : Loc) (n : Nat) (T : Tr Value) (D : List Value) (a : Act) : Prop where
  size : a.tmps.size = n
  defers : DRel ρ D a.defers
  slots : ∀ t, TRs ρ T a t

/-- A call, as an operation of the caller's meets it. -/
def CallSem (P : Program) (f : FuncId) (args : Array Value) (w : World) (R : Value → World → Prop) : Prop :=
  ∀ (o : Oper) (a : Act) (K : Act → World → Prop) (Q : Exit → Act → World → Prop), (∀ v w', R v w' → K (a.put o.dst v) w') → o.upon P a K Q ((callFunc f args).run P w)

/-- Calls that leave all that was there as it was, and hand back a value without addresses, are what they are said to be. -/
class QuietOK (P : Program) [Quiet] : Prop where
  ok : ∀ (f : FuncId) (g : List Value → Option Value) (args : List Value) (v : Value) (w : World), Quiet.qs f = some g → g args = some v → CallSem P f args.toArray w fun v' w' => v' = v ∧ Below w.heap.size w w'

/-- What holds of a world by its old blocks alone. -/
def Stable (N : Nat) (J : World → Prop) : Prop := ∀ w w', Below N w w' → J w → J w'

def CallOK (P : Program) (N : Nat) (J : World → Prop) (f : FuncId) (args : List Value) (σ : St) (v : Value) (σ' : St) : Prop :=
  ∀ (ρ : Loc) (w : World) (args' : List Value), Rel P N ρ σ w → J w → LRel ρ args args' →
    CallSem P f args'.toArray w fun v' w' => ∃ ρ' : Loc, Grew ρ ρ' σ σ' ∧ VRel ρ' v v' ∧ Rel P N ρ' σ' w' ∧ Below N w w'

def SelfOK (P : Program) (N : Nat) (J : World → Prop) (self : FuncId → List Value → St → Option (Value × St)) : Prop :=
  ∀ f args σ v σ', self f args σ = some (v, σ') → CallOK P N J f args σ v σ'

section
variable {P : Program} {N : Nat} {J : World → Prop} {ρ : Loc} {σ : St} {w : World} {T : Tr Value} {a : Act} {n : Nat}

theorem putT_spec {dst : Option Nat} {v : Value} {T' : Tr Value} (h : putT n T dst v = some T') : (dst = none ∧ T' = T) ∨ ∃ d, dst = some d ∧ d < n ∧ T' = T.set v d := by
  unfold putT at h
  split at h
  · cases h; exact .inl ⟨rfl, rfl⟩
  · rename_i d
    split at h
    · rename_i hd
      cases h
      exact .inr ⟨d, rfl, Nat.le_of_ble_eq_true hd, rfl⟩
    · cases h

theorem put_size (a : Act) (dst : Option Tmp) (v : Value) : (a.put dst v).tmps.size = a.tmps.size := by cases dst <;> simp [Act.put]
theorem put_defers (a : Act) (dst : Option Tmp) (v : Value) : (a.put dst v).defers = a.defers := by cases dst <;> rfl

theorem put_slot (hn : a.tmps.size = n) {dst : Option Nat} {v v' : Value} {T' : Tr Value} (h : putT n T dst v = some T') (hv : VRel ρ v v') {t : Nat} (ht : dst = some t ∨ TRs ρ T a t) : TRs ρ T' (a.put dst v') t := by
  rcases putT_spec h with ⟨rfl, rfl⟩ | ⟨d, rfl, hd, rfl⟩
  · rcases ht with ht | ht
    · cases ht
    · exact ht
  · unfold TRs
    rw [tmpOf_set]
    by_cases e : t = d
    · subst e
      rw [if_pos rfl]
      have : (a.put (some t) v').tmps.getD t undef = v' := by
        simp [Act.put, hn, hd]
      rw [this]
      exact hv
    · rw [if_neg e]
      have : (a.put (some d) v').tmps.getD t undef = a.tmps.getD t undef := by
        simp [Act.put, Ne.symm e]
      rw [this]
      rcases ht with ht | ht
      · cases ht; exact absurd rfl e
      · exact ht

theorem guardOk_sound {ops : Array Oper} {o : Oper} (hg : ∀ j want g d, o.guard = some (j, want) → ops[j]? = some g → g.dst = some d → TRs ρ T a d) : Region.wanted o (yielded ops a.tmps) = guardOk ops T o.guard := by
  unfold Region.wanted guardOk
  cases hgd : o.guard with
  | none => rfl
  | some jw =>
    obtain ⟨j, want⟩ := jw
    simp only
    rw [lget_eq, Array.getElem?_toList]
    unfold yielded
    cases ho : ops[j]? with
    | none => rfl
    | some g =>
      simp only [Option.bind_some]
      cases hd : g.dst with
      | none => rfl
      | some d =>
        simp only [Option.bind_some]
        have hrel := hg j want g d hgd ho hd
        unfold TRs at hrel
        generalize hx : tmpOf T d = x at hrel
        generalize hy : a.tmps.getD d undef = y at hrel
        have hcase : ∀ b, y = .bool b → a.tmps[d]? = some (.bool b) := fun b hb => by
          rw [hb, Array.getD_eq_getD_getElem?] at hy
          cases hc : a.tmps[d]? with
          | none => rw [hc] at hy; cases hy
          | some u => rw [hc] at hy; simp at hy; rw [hy]
        cases hrel with
        | bool b =>
          have h1 := hcase b rfl
          rw [h1]
          cases b <;> cases want <;> rfl
        | _ =>
          have hb : ∀ b : Bool, a.tmps[d]? ≠ some (.bool b) := fun b hc => by
            rw [Array.getD_eq_getD_getElem?, hc] at hy
            first
            | (cases hy; done)
            | (cases hy; rename_i hv; simp [anyV] at hv)
          generalize a.tmps[d]? = u at hb
          cases u with
          | none => rfl
          | some u => cases u <;> first | rfl | exact absurd rfl (hb _)

/-- Any operation: what lies behind it. -/
theorem opRun_sound {self : FuncId → List Value → St → Option (Value × St)} (hself : SelfOK P N J self) {ops : Array Oper} {o : Oper} {T' : Tr Value} {σ' : St} (h : opRun P self n ops o T σ = some (T', σ'))
    (hr : Rel P N ρ σ w) (hJ : J w) (hx : ∀ z ∈ o.op.operands, ∀ s, z = .tmp s → TRs ρ T a s) (hg : ∀ j want g d, o.guard = some (j, want) → ops[j]? = some g → g.dst = some d → TRs ρ T a d)
    {i : Nat} (hi : ops[i]? = some o) {K : Act → World → Prop} {Q : Exit → Act → World → Prop}
    (hK : ∀ (ρ' : Loc) (v v' : Value) (w' : World), Grew ρ ρ' σ σ' → Rel P N ρ' σ' w' → Below N w w' → putT n T o.dst v = some T' → VRel ρ' v v' → K (a.put o.dst v') w') : wpOp P ops Q i K a w := by
  unfold wpOp
  simp only [hi]
  rw [guardOk_sound hg]
  unfold opRun at h
  split at h
  · rename_i hgd
    rw [hgd]
    simp only [Bool.false_eq_true, if_false]
    split at h
    · rename_i T1 hT
      cases h
      exact hK ρ undef undef w (.refl _ _) hr (Below.refl _ _) hT (undef_rel _)
    · cases h
  · rename_i hgd
    rw [hgd]
    simp only [if_true]
    refine .inl ?_
    unfold Oper.wp
    split at h
    · rename_i v hv
      obtain ⟨v', h1, h2⟩ := op_sound hr hv hx
      rw [h1]
      split at h
      · rename_i T1 hT
        cases h
        exact hK ρ v v' w (.refl _ _) hr (Below.refl _ _) hT h2
      · cases h
    · rename_i b mk hv
      obtain ⟨ob, v', w', h1, h2, h3, h4, h5, h6, h7⟩ := op_sound hr hv hx
      rw [h1]
      split at h
      · rename_i T1 hT
        cases h
        exact hK _ (mk.val σ.next) v' w' (.ext hr.fresh_none rfl) (new_sound hr h6 h2) (push_below hr.size h2 h3 h4 h5) hT h7
      · cases h
    · rename_i v σ1 hv
      obtain ⟨nx, v', w', ρ', h1, h2, h3, h4, h5, h6⟩ := op_sound hr hv hx
      rw [h1]
      split at h
      · rename_i T1 hT
        cases h
        have := hK ρ' v v' w' h3 h5 h6 hT h4
        rcases h2 with rfl | ⟨rfl, rfl⟩
        · exact this
        · exact this
      · cases h
    · rename_i f args hv
      obtain ⟨args', h1, h2⟩ := op_sound hr hv hx
      rw [h1]
      split at h
      · rename_i v σ1 hs
        split at h
        · rename_i T1 hT
          cases h
          refine hself f args σ v _ hs ρ w args' hr hJ h2 o a K Q fun v' w' hR => ?_
          obtain ⟨ρ', g1, g2, g3, g4⟩ := hR
          exact hK ρ' v v' w' g1 g3 g4 hT g2
        · cases h
      · cases h
    · cases h

theorem put_full {D : List Value} (hT : TFull ρ n T D a) {ρ' : Loc} (hle : ρ.le ρ') {dst : Option Nat} {v v' : Value} {T' : Tr Value} (h : putT n T dst v = some T') (hv : VRel ρ' v v') : TFull ρ' n T' D (a.put dst v') :=
  ⟨by rw [put_size]; exact hT.size, by rw [put_defers]; exact hT.defers.mono hle, fun t => put_slot hT.size h hv (.inr ((hT.slots t).mono hle))⟩

theorem keepD_rel {d : List Value} (h : Rel P N ρ σ w) : Rel P N ρ (σ.keepD d) w := by
  refine ⟨h.dom, h.above, h.clsAbove, fun k p ob h1 h2 => ?_, h.sep, h.lone, h.glob, h.size⟩
  have := h.obj k p ob h1 h2
  cases ob with
  | row cells len elem cls pos =>
    obtain ⟨g1, c, fz, g2⟩ := this
    exact ⟨g1, c, fz, ⟨g2.at', g2.size, g2.within, g2.holds, g2.free, g2.ends, g2.base⟩⟩
  | map es clock => exact this
  | mapIter m since seen stepped => exact this
  | strIter s pos => exact this
  | bag es => exact this

theorem deferred_sound (hr : Rel P N ρ σ w) (hT : ∀ t, TRs ρ T a t) {c : Call} {v : Value} (h : deferred σ T c = some v) (t : TypeId) :
    ∃ d, resolve a.eval c t = pure d ∧ DfrRel ρ v d := by
  unfold deferred at h
  split at h
  · rename_i f hf
    split at h
    · rename_i g first captured args hop hargs
      cases h
      have hargs' := opds_sound (a := a) hr hargs (fun _ _ t _ => hT t)
      have hfv := opd_sound (a := a) hr hop (fun t _ => hT t)
      generalize hfe : a.eval f = fv at hfv
      cases hfv with
      | fn _ _ _ first' captured' h1 h2 c1 c2 =>
        refine ⟨{ target := .fn (.func g) captured', args := first' ++ c.args.map a.eval }, ?_, ⟨g, first.toList ++ args, captured.toList, first'.toList ++ c.args.toList.map a.eval, captured'.toList, by simp, ?_, (LRel.of_array h1 c1).append hargs', LRel.of_array h2 c2⟩⟩
        · unfold resolve
          rw [hf]
          simp only [hfe]
          rfl
        · congr 1
          apply Array.toList_inj.1
          simp
    · cases h
  · cases h

theorem seqRun_cons (self : FuncId → List Value → St → Option (Value × St)) (ops : Array Oper) (o : Oper) (l : List Oper) (T : Tr Value) (σ : St) : seqRun P self n ops (o :: l) T σ = match isDefer o.op with
    | none => match opRun P self n ops o T σ with
      | some (T', σ') => seqRun P self n ops l T' (σ'.keepD σ.dfr)
      | none => none
    | some c => match o.guard, deferred σ T c with
      | none, some v => match putT n T o.dst undef with
        | some T' => seqRun P self n ops l T' (σ.keepD (v :: σ.dfr))
        | none => none
      | _, _ => none := rfl

theorem isDefer_eq {o : Op} {c : Call} (h : isDefer o = some c) : o = .defer c := by
  unfold isDefer at h
  split at h
  · cases h; rfl
  · cases h

theorem seqRun_sound {self : FuncId → List Value → St → Option (Value × St)} (hst : Stable N J) (hself : SelfOK P N J self) {ops : Array Oper} {Q : Exit → Act → World → Prop} : ∀ (l : List Oper) (i : Nat), (∀ j, l[j]? = ops[i + j]?) → ∀ {T T' : Tr Value} {σ σ' : St} {ρ : Loc} {a : Act} {w : World},
    seqRun P self n ops l T σ = some (T', σ') → Rel P N ρ σ w → J w → TFull ρ n T σ.dfr a →
    (∀ (ρ' : Loc) (a' : Act) (w' : World), Grew ρ ρ' σ σ' → Rel P N ρ' σ' w' → TFull ρ' n T' σ'.dfr a' → Below N w w' → Q .normal a' w') → wpOps P ops Q (List.range' i l.length) a w := by
  intro l
  induction l with
  | nil =>
    intro i _ T T' σ σ' ρ a w h hr hJ hT hQ
    cases h
    exact hQ ρ a w (.refl _ _) hr hT (Below.refl _ _)
  | cons o l ih =>
    intro i hi T T' σ σ' ρ a w h hr hJ hT hQ
    have hio : ops[i]? = some o := by simpa using (hi 0).symm
    have hin : ∀ j, l[j]? = ops[i + 1 + j]? := fun j => by have := hi (j + 1); simpa [Nat.add_assoc, Nat.add_comm 1 j] using this
    rw [seqRun_cons] at h
    rw [List.length_cons, List.range'_succ, wpOps_cons]
    split at h
    · split at h
      · rename_i T1 σ1 h1
        refine opRun_sound hself h1 hr hJ (fun z _ s _ => hT.slots s) (fun _ _ _ d _ _ _ => hT.slots d) hio fun ρ' v v' w' g1 g2 g3 g4 g5 => ?_
        exact ih (i + 1) hin h (keepD_rel g2) (hst _ _ g3 hJ) (put_full hT g1.le g4 g5) fun ρ'' a'' w'' k1 k2 k3 k4 => hQ ρ'' a'' w'' (g1.trans ⟨k1.le, k1.old, k1.next⟩) k2 k3 (g3.trans k4)
      · cases h
    · rename_i c hc
      split at h
      · rename_i v hgd hd
        split at h
        · rename_i T1 hT1
          obtain ⟨d, hd1, hd2⟩ := deferred_sound hr hT.slots hd o.type
          have hop := isDefer_eq hc
          have hex : execOp a.eval o = pure (.defer d) := by
            have h1 : execOp a.eval o = (do pure (.defer (← resolve a.eval c o.type))) := by unfold execOp; rw [hop]
            rw [h1, hd1]
            rfl
          unfold wpOp
          simp only [hio]
          rw [guardOk_sound (T := T) (ρ := ρ) (fun _ _ _ d _ _ _ => hT.slots d)]
          have hok : guardOk ops T o.guard = true := by rw [hgd]; rfl
          rw [hok]
          simp only [if_true]
          refine .inl ?_
          unfold Oper.wp
          rw [hex]
          have hT2 : TFull ρ n T (v :: σ.dfr) { a with defers := d :: a.defers } := ⟨hT.size, .cons hd2 hT.defers, hT.slots⟩
          exact ih (i + 1) hin h (keepD_rel hr) hJ (put_full hT2 (Loc.le_refl _) hT1 (undef_rel _)) fun ρ' a' w' k1 k2 k3 k4 => hQ ρ' a' w' ⟨k1.le, k1.old, k1.next⟩ k2 k3 k4
        · cases h
      · cases h

/-! ### Results -/

theorem resultsOf_sound (hr : Rel P N ρ σ w) (hT : ∀ t, TRs ρ T a t) : ∀ {l : List ResultVar} {vs : List Value}, resultsOf P σ T l = some vs →
    ∃ vs', (l.mapM (fun (r : ResultVar) => match r with
      | .tmp t => pure (a.tmps.getD t undef)
      | .cell q t => do loadVar t (← asAddr (a.tmps.getD q undef)) : ResultVar → Sem Value)).run P w = .ok vs' w ∧ LRel ρ vs vs' := by
  intro l
  induction l with
  | nil => intro vs h; cases h; exact ⟨[], rfl, .nil⟩
  | cons x l ih =>
    intro vs h
    change (match resultOf P σ T x with
      | none => none
      | some v => match resultsOf P σ T l with
        | none => none
        | some r => some (v :: r)) = some vs at h
    split at h
    · cases h
    · rename_i v hv
      split at h
      · cases h
      · rename_i r hl
        cases h
        obtain ⟨vs', h1, h2⟩ := ih hl
        rw [List.mapM_cons]
        cases x with
        | tmp t =>
          cases hv
          refine ⟨a.tmps.getD t undef :: vs', ?_, .cons (hT t) h2⟩
          simp only [Sem.run_bind, Sem.run_pure, Result.andThen_ok, h1]
        | cell q t =>
          simp only [resultOf] at hv
          split at hv
          · rename_i u hu
            cases hv
            obtain ⟨y, hy⟩ : ∃ y, a.tmps.getD q undef = y := ⟨_, rfl⟩
            have hq : VRel ρ (tmpOf T q) y := hy ▸ hT q
            obtain ⟨u', _, g2, g3, g, rfl⟩ := eLoad_sound hr hu hq
            refine ⟨u' :: vs', ?_, .cons g2 h2⟩
            have g3' : (loadVar t g).run P w = .ok u' w := g3
            have hrest := h1
            have ha : asAddr (a.tmps.getD q undef) = pure g := by rw [hy]; rfl
            simp only [Sem.run_bind, Sem.run_pure, Result.andThen_ok, ha, g3']
            rw [hrest]
            rfl
          · cases hv

theorem packL_rel {l l' : List Value} (h : LRel ρ l l') : VRel ρ (packL l) (if hs : l'.toArray.size = 1 then l'.toArray[0] else .tuple l'.toArray) := by
  cases h with
  | nil => exact .tuple #[] #[] rfl fun i h => absurd h (by simp)
  | cons h1 t1 =>
    cases t1 with
    | nil => exact h1
    | cons h2 t2 =>
      have hl : LRel ρ _ _ := F2.cons h1 (F2.cons h2 t2)
      obtain ⟨g1, g2⟩ := hl.to_array
      rw [dif_neg (by simp)]
      exact .tuple _ _ g1 g2

theorem results_sound (hr : Rel P N ρ σ w) (hT : ∀ t, TRs ρ T a t) {fn : Func} {vs : List Value} (h : resultsOf P σ T fn.results.toList = some vs) :
    ∃ v', (results fn a.tmps).run P w = .ok v' w ∧ VRel ρ (packL vs) v' := by
  obtain ⟨vs', h1, h2⟩ := resultsOf_sound (a := a) hr hT h
  refine ⟨_, ?_, packL_rel h2⟩
  have hm : (fn.results.mapM (fun (r : ResultVar) => match r with
      | .tmp t => pure (a.tmps.getD t undef)
      | .cell q t => do loadVar t (← asAddr (a.tmps.getD q undef)) : ResultVar → Sem Value)).run P w = .ok vs'.toArray w := by
    rw [Array.mapM_eq_mapM_toList, map_eq_pure_bind, Sem.run_bind]
    exact (congrArg (fun r => Result.andThen r _) h1).trans rfl
  unfold results
  rw [Sem.run_bind]
  exact (congrArg (fun r => Result.andThen r _) hm).trans rfl

end
end Go.Ke
