/- Own text of this claim: an abstract machine over the given program form, and what follows from it. No condition. -/
import Derived.Test.YtekijepgmmemiaaGreatEvL
set_option linter.unusedVariables false
set_option linter.unusedSimpArgs false
set_option maxHeartbeats 1000000
namespace Go.EV
section
variable {P : Program} {N : Nat} {own : Own}

theorem run_newObj (o : Obj) (w : World) : (newObj o).run P w = .ok w.heap.size (w.alloc o) := rfl

theorem range_run {ρ : Rho} {f : Operand → Option AV} {e : Operand → Value} (hf : EvR ρ f e) {fo : Operand} {g : FuncId} {first cap : List AV} (h : f fo = some (.fn (.func g) first cap)) {b : Nat} {cb : Cb} {ρ2 : Rho} (hx : Ext ρ ρ2) (hb : ρ2 b = some cb)
    (hec : ∀ v, e (.const v) = v)
    (hbd : ∃ fn, P.funcs[g]? = some fn ∧ fn.body.isSome = true) (hN : ∀ (g : Nat) (fn : Func), P.funcs[g]? = some fn → (fn.name == "runtime.NumGoroutine") = false) :
    ∃ cargs, (∀ w, (do let d ← resolve e { callee := .value fo, args := #[.const (.func (.yield cb.blk) #[] #[])], argTypes := #[] } 0; invoke d.target d.args).run P w = .ok (.enter g cargs.toArray) w) ∧ VRs ρ2 (first ++ [.yld b] ++ cap) cargs := by
  have hr := hf _ _ h
  simp only [VR] at hr
  obtain ⟨cf, cc, he, h1, h2⟩ := hr
  obtain ⟨fn, hfn, hbody⟩ := hbd
  have hname := hN _ _ hfn
  have hbn : fn.body.isNone = false := by cases hh : fn.body <;> simp [hh] at hbody ⊢
  refine ⟨cf.toList ++ [.func (.yield cb.blk) #[] #[]] ++ cc.toList, fun w => ?_, ?_⟩
  · simp only [resolve, he, Deferred.ofValue, Sem.run_bind, Sem.run_pure, Result.andThen_ok, invoke, callFunc, run_program, hfn, hname, Bool.false_eq_true, if_false, hbn]
    congr 2
    apply Array.ext'; simp [hec]
  · refine VRs.append (VRs.append (VRs.ext hx h1) ?_) (VRs.ext hx h2)
    simp only [VRs, VR]
    exact ⟨_, _, rfl, ⟨cb, hb, rfl⟩, rfl⟩

theorem enterLoop_step {f : Frame} {cs : List Frame} {w w2 : World} {fo : Operand} {params : Array Tmp} {assign body : Code} {k : List Item} (hm : f.mode = .run) (ht : f.todo = .code (.rangeFunc fo params assign body) :: k)
    {l : Nat} {mark : List Deferred} (hr : (Instr.enterLoop f.fn f.tmps params assign body f.roundOf).run P w = .ok (l, mark) w2) {g : FuncId} {args : Array Value}
    (hc : (do let d ← resolve f.eval { callee := .value fo, args := #[.const (.func (.yield l) #[] #[])], argTypes := #[] } 0; invoke d.target d.args).run P w2 = .ok (.enter g args) w2) :
    step P (lone f cs w) = .next (lone (Frame.enter P g args .normal) ({ f with todo := .inRangeFunc l :: k, defers := mark ++ f.defers } :: cs) w2) := by
  refine exec_step hm ?_
  have he : Frame.eval { f with todo := .inRangeFunc l :: k, defers := mark ++ f.defers } = f.eval := by
    funext o; cases o <;> rfl
  unfold stepG.exec
  rw [ht]
  rw [Sem.run_bind] at hc
  simp [stepG.apply, hr, he, hc]

theorem loop_enter {ρ : Rho} {m : AM} {fr : Frame} {cs : List Frame} {w : World} (H : HRel ρ m.heap w) (O : Owned N own ρ) (hN : N ≤ w.heap.size) (F : FRp ρ m.top fr) {fo : Operand} {params : Array Tmp} {assign body : Code} {k : List AItem} {kc : List Item}
    (ht : fr.todo = .code (.rangeFunc fo params assign body) :: kc) (hk : All2 (IR ρ) k kc) {h2 : AH} {marks : List Nat} {l : Nat} (e : loopA m params assign body = some (h2, marks, l)) {g : FuncId} {first cap : List AV} (hf : ev m.top.tmps fo = some (.fn (.func g) first cap))
    (hbd : ∃ fn, P.funcs[g]? = some fn ∧ fn.body.isSome = true) (hNG : ∀ (g : Nat) (fn : Func), P.funcs[g]? = some fn → (fn.name == "runtime.NumGoroutine") = false) :
    ∃ ρ2 cargs fr2 w2, step P (lone fr cs w) = .next (lone (Frame.enter P g cargs.toArray .normal) (fr2 :: cs) w2) ∧ VRs ρ2 (first ++ [.yld l] ++ cap) cargs ∧ HRel ρ2 h2 w2 ∧ Ext2 m.heap.next ρ ρ2 ∧ Keep N own w w2 ∧ Owned N own ρ2 ∧ m.heap.next ≤ h2.next ∧
      FRp ρ2 ⟨m.top.fn, ⟨m.top.ctl.rnd, marks⟩, m.top.n, m.top.tmps, .inRF l :: k⟩ fr2 := by
  unfold loopA at e
  have hrd := F.round
  split at e
  · rename_i hrnd
    simp only [Option.some.injEq, Prod.mk.injEq] at e
    obtain ⟨rfl, rfl, rfl⟩ := e
    rw [hrnd] at hrd
    simp only [RoundR] at hrd
    have H1 := H.alloc (o := .dfr true) (obj := .deferred (some [])) (tot := 0) (kn := 0) rfl
    have x1 := Rho.put_ext2 (ρ := ρ) (b := m.heap.next) (cb := ⟨w.heap.size, 0, 0, 0⟩) (H.fresh _ (Nat.le_refl _))
    have O1 := O.put (b := m.heap.next) (cb := ⟨w.heap.size, 0, 0, 0⟩) (.inl hN)
    have K1 := Keep.alloc (own := own) w (.deferred (some [])) hN
    generalize hρ1 : ρ.put m.heap.next ⟨w.heap.size, 0, 0, 0⟩ = ρ1 at *
    generalize hw1 : w.alloc (.deferred (some [])) = w1 at *
    have hd : ρ1 m.heap.next = some ⟨w.heap.size, 0, 0, 0⟩ := by rw [← hρ1]; exact Rho.put_same
    have x2 := Rho.put_ext2 (ρ := ρ1) (b := m.heap.next + 1) (cb := ⟨w1.heap.size, 0, 0, 0⟩) (H1.fresh _ (by simp [AH.new]))
    have H2 := H1.alloc (o := .loop ⟨.ready, none, m.top.fn, m.top.n, m.top.tmps, params, assign, body⟩) (obj := .loop { state := .ready, pending := none, fn := fr.fn, tmps := fr.tmps, params, assign, body, defers := w.heap.size }) (tot := 0) (kn := 0)
      ⟨_, rfl, ⟨rfl, rfl, F.fn, F.size, fun t v hv => by obtain ⟨c, h1, h2⟩ := F.tmps t v hv; exact ⟨c, h1, (h2.ext x1.1).ext x2.1⟩, rfl, rfl, rfl⟩⟩
    have O2 := O1.put (b := m.heap.next + 1) (cb := ⟨w1.heap.size, 0, 0, 0⟩) (.inl (Nat.le_trans hN K1.size))
    have K2 := Keep.alloc (own := own) w1 (.loop { state := .ready, pending := none, fn := fr.fn, tmps := fr.tmps, params, assign, body, defers := w.heap.size }) (Nat.le_trans hN K1.size)
    have hl : (ρ1.put (m.heap.next + 1) ⟨w1.heap.size, 0, 0, 0⟩) (m.heap.next + 1) = some ⟨w1.heap.size, 0, 0, 0⟩ := Rho.put_same
    obtain ⟨cargs, hc, hv⟩ := range_run (P := P) F.eval hf (x1.1.trans x2.1) hl (fun v => rfl) hbd hNG
    have hrun : (Instr.enterLoop fr.fn fr.tmps params assign body fr.roundOf).run P w = .ok (w1.heap.size, [{ target := .collected w.heap.size, args := #[] }]) (w1.alloc (.loop { state := .ready, pending := none, fn := fr.fn, tmps := fr.tmps, params, assign, body, defers := w.heap.size })) := by
      simp [Instr.enterLoop, hrd, run_newObj, hw1]
    refine ⟨_, cargs, _, _, enterLoop_step F.mode ht hrun (hc _), hv, H2, ⟨x1.1.trans x2.1, fun b hb => (x2.2 b (by omega)).trans (x1.2 b hb)⟩, K1.trans K2, O2, by simp [AH.new]; omega, ?_⟩
    refine ⟨F.fn, F.mode, F.kind, ?_, ?_, F.size, fun t v hv => by obtain ⟨c, h1, h2⟩ := F.tmps t v hv; exact ⟨c, h1, (h2.ext x1.1).ext x2.1⟩, ?_⟩
    · exact ⟨_, _, x2.1.m _ _ hd, rfl, (F.defers.ext x1.1).ext x2.1⟩
    · rw [hrnd]; exact hrd
    · exact .cons ⟨_, hl, rfl⟩ ((hk.mono (IR.ext x1.1)).mono (IR.ext x2.1))
  · rename_i b hrnd
    split at e
    · rename_i x hg
      simp only [Option.some.injEq, Prod.mk.injEq] at e
      obtain ⟨rfl, rfl, rfl⟩ := e
      rw [hrnd] at hrd
      simp only [RoundR] at hrd
      obtain ⟨cb, hb, hro⟩ := hrd
      obtain ⟨r, hw, L⟩ := H.blk _ _ hg cb hb
      have x2 := Rho.put_ext2 (ρ := ρ) (b := m.heap.next) (cb := ⟨w.heap.size, 0, 0, 0⟩) (H.fresh _ (Nat.le_refl _))
      have H2 := H.alloc (o := .loop ⟨.ready, none, m.top.fn, m.top.n, m.top.tmps, params, assign, body⟩) (obj := .loop { state := .ready, pending := none, fn := fr.fn, tmps := fr.tmps, params, assign, body, defers := r.defers }) (tot := 0) (kn := 0)
        ⟨_, rfl, ⟨rfl, rfl, F.fn, F.size, fun t v hv => by obtain ⟨c, h1, h2⟩ := F.tmps t v hv; exact ⟨c, h1, h2.ext x2.1⟩, rfl, rfl, rfl⟩⟩
      have O2 := O.put (b := m.heap.next) (cb := ⟨w.heap.size, 0, 0, 0⟩) (.inl hN)
      have K2 := Keep.alloc (own := own) w (.loop { state := .ready, pending := none, fn := fr.fn, tmps := fr.tmps, params, assign, body, defers := r.defers }) hN
      have hl : (ρ.put m.heap.next ⟨w.heap.size, 0, 0, 0⟩) m.heap.next = some ⟨w.heap.size, 0, 0, 0⟩ := Rho.put_same
      obtain ⟨cargs, hc, hv⟩ := range_run (P := P) F.eval hf x2.1 hl (fun v => rfl) hbd hNG
      have hrun : (Instr.enterLoop fr.fn fr.tmps params assign body fr.roundOf).run P w = .ok (w.heap.size, []) (w.alloc (.loop { state := .ready, pending := none, fn := fr.fn, tmps := fr.tmps, params, assign, body, defers := r.defers })) := by
        simp [Instr.enterLoop, hro, run_newObj, run_getLoop hw]
      refine ⟨_, cargs, _, _, enterLoop_step F.mode ht hrun (hc _), hv, H2, x2, K2, O2, by simp [AH.new], ?_⟩
      refine ⟨F.fn, F.mode, F.kind, F.defers.ext x2.1, ?_, F.size, fun t v hv => by obtain ⟨c, h1, h2⟩ := F.tmps t v hv; exact ⟨c, h1, h2.ext x2.1⟩, ?_⟩
      · rw [hrnd]; exact ⟨cb, x2.1.m _ _ hb, hro⟩
      · exact .cons ⟨_, hl, rfl⟩ (hk.mono (IR.ext x2.1))
    · cases e
end
end Go.EV
