/- Own text of this claim: an abstract machine over the given program form, and what follows from it. No condition. -/
import Derived.Test.YtekijepgmmemiaaGreatEvG
import Derived.Test.YtekijepgmmemiaaGreatFc
set_option linter.unusedVariables false
set_option linter.unusedSimpArgs false
set_option maxHeartbeats 1000000
namespace Go.EV
section
variable {P : Program} {N : Nat} {own : Own} {w0 : World} {cs0 : List Frame} {f0 : FuncId} {ρ0 : Rho} {n0 : Nat}

theorem plain_frame {ρ : Rho} {lo hi : Nat} {a : AFr} {f : Frame} (F : FR P ρ lo hi a f) (hn : ∀ ops all done floats rest wait k, a.todo ≠ .dreg ops all done floats rest wait :: k) : FRp ρ a f := by
  rcases F with F | ⟨_, _, _, _, _, _, ops, all, done, floats, rest, wait, k', kc, L, g1, _⟩
  · exact F
  · exact absurd g1 (hn _ _ _ _ _ _ _)

theorem draw_step {f : Frame} {cs : List Frame} {w : World} (hm : f.mode = .run) (hmix : P.follows .mixedOrders = true) {id : Nat} {ops : Array Oper} {k : List Item} (ht : f.todo = .code (.region id ops true) :: k) :
    ∃ t, step P (lone f cs w) = .next (lone { f with todo := .inRegion ops (Region.linearise .any ops t) :: k } cs w.drew) := by
  refine ⟨w.tape w.drawn (.order f.fn id), exec_step hm ?_⟩
  unfold stepG.exec
  rw [ht]
  simp only [Bool.not_true, Bool.false_eq_true, if_false, choose, Sem.run, Question.forced, Question.cut, Region.schedule, hmix, Bool.true_or, if_true]
  rfl

theorem draw_frame {ρ : Rho} {B hi : Nat} {m : AM} {fr : Frame} (F : FRp ρ m.top fr) {ops : Array Oper} {all : List RI} (hi' : regInfo ops = some all) {k : List AItem} {kc : List Item} (hr : All2 (IR ρ) k kc) (t : Nat) :
    FRd P ρ B hi ⟨m.top.fn, m.top.ctl, m.top.n, m.top.tmps, .dreg ops all 0 [] all none :: k⟩ { fr with todo := .inRegion ops (Region.linearise .any ops t) :: kc } := by
  have I := regInfo_spec hi'
  obtain ⟨t1, t2⟩ := linearise_spec I.back t
  have hin : ∀ i, i < ops.size → inD (Region.linearise .any ops t) i = false := fun i hi => inD_false.mpr ((t2 i).mpr hi)
  refine ⟨F.fn, F.mode, F.kind, F.defers, F.round, F.size, ops, all, 0, [], all, none, k, kc, Region.linearise .any ops t, rfl, rfl, hr, ?_, mem_rest I, trivial⟩
  refine ⟨I, t1, fun i hi => (t2 i).mp hi, fun i h1 h2 => absurd ((t2 i).mpr h1) h2, fun i o _ h => by simp at h, fun i o ho h => ?_, fun i x d _ h => by simp at h, by simp, fun _ => default, m.top.tmps.get, fun u => ?_, fun u v h => ?_, fun i x _ h => by simp at h⟩
  · have : i < ops.size := (Array.getElem?_eq_some_iff.mp ho).1
    rw [hin i this] at h; cases h
  · unfold cur
    rw [lastW_congr (W' := fun _ => false) (fun j _ _ => by simp)]
    have : ∀ n, lastW (dstOf ops) (fun _ => false) u n = none := by
      intro n; induction n with
      | zero => rfl
      | succ n ih => simp [lastW, ih]
    rw [this]
  · unfold cur at h
    rw [lastW_congr (W' := fun _ => false) (fun j hj _ => hin j hj)] at h
    have : ∀ n, lastW (dstOf ops) (fun _ => false) u n = none := by
      intro n; induction n with
      | zero => rfl
      | succ n ih => simp [lastW, ih]
    rw [this] at h
    exact F.tmps u v h

theorem plainOp_next {fr : Tr AV} {h h' : AH} {op : Op} {v : AV} (e : plainOp P fr h op = some (v, h')) : h.next ≤ h'.next := by
  unfold plainOp at e
  split at e
  · split at e
    · simp only [Option.some.injEq, Prod.mk.injEq] at e; obtain ⟨-, rfl⟩ := e; exact Nat.le_refl _
    · simp at e
  · split at e
    · split at e
      · split at e
        · simp only [Option.some.injEq, Prod.mk.injEq] at e; obtain ⟨-, rfl⟩ := e; exact Nat.le_refl _
        · simp at e
      · simp at e
    · simp at e
  · split at e
    · simp only [Option.some.injEq, Prod.mk.injEq] at e; obtain ⟨-, rfl⟩ := e; exact Nat.le_succ _
    · simp at e
  · exact effOp_next e
  · simp at e

theorem exitTo_none {ρ : Rho} (id : Nat) : ∀ {k : List AItem} {l : List Item}, All2 (IR ρ) k l → exitToA id k = none → exitTo id l = none
  | [], l, h, e => by cases h; rfl
  | x :: k, l, h, e => by
    obtain ⟨y, r, rfl, hxy, hr⟩ := h.get
    cases x with
    | inBlock i =>
      cases y with
      | inBlock j =>
        simp only [IR] at hxy; subst hxy
        simp only [exitToA] at e
        split at e
        · cases e
        · rename_i hid
          have hne : (j == id) = false := by
            simp only [beq_eq_false_iff_ne, ne_eq]; intro hh; subst hh; rw [Nat.beq_refl] at hid; cases hid
          simp only [exitTo, hne, Bool.false_eq_true, if_false]
          exact exitTo_none id hr e
      | _ => simp only [IR] at hxy
    | _ => cases y <;> simp only [IR] at hxy <;> (simp only [exitToA] at e; simp only [exitTo]; exact exitTo_none id hr e)

theorem gotoIn_none {ρ : Rho} (id : Nat) : ∀ {k : List AItem} {l : List Item}, All2 (IR ρ) k l → gotoInA id k = none → gotoIn id l = none
  | [], l, h, e => by cases h; rfl
  | x :: k, l, h, e => by
    obtain ⟨y, r, rfl, hxy, hr⟩ := h.get
    cases x with
    | inScope i =>
      cases y with
      | inScope j =>
        simp only [IR] at hxy; subst hxy
        simp only [gotoInA] at e
        split at e
        · cases e
        · rename_i hf
          simp only [gotoIn, hf]
          exact gotoIn_none id hr e
      | _ => simp only [IR] at hxy
    | _ => cases y <;> simp only [IR] at hxy <;> (simp only [gotoInA] at e; simp only [gotoIn]; exact gotoIn_none id hr e)

theorem leaveJ_goes {m : AM} {fr : Frame} {cs : List Frame} {w : World} (M : MR P N own w0 cs0 f0 ρ0 n0 m fr cs w) (hnd : ∀ ops all done floats rest wait k, m.top.todo ≠ .dreg ops all done floats rest wait :: k) {jump : Option Code}
    (ht : (fr.todo = [] ∧ jump = none) ∨ (∃ k, fr.todo = .code .ret :: k ∧ jump = some .ret) ∨ (∃ id k, fr.todo = .code (.exit id) :: k ∧ exitTo id k = none ∧ jump = some (.exit id)) ∨ (∃ l k, fr.todo = .code (.goto l) :: k ∧ gotoIn l k = none ∧ jump = some (.goto l))) :
    Goes P N own w0 cs0 f0 ρ0 n0 (leaveJ P m jump) fr cs w := by
  unfold leaveJ
  split
  · rename_i hn
    split
    · rcases ht with ⟨ht, _⟩ | ⟨k, ht, hj⟩ | ⟨id, k, ht, he, hj⟩ | ⟨l, k, ht, he, hj⟩
      · exact leave_goes (k := []) M hn (.inl ht)
      · cases hj
      · cases hj
      · cases hj
    · rcases ht with ⟨ht, hj⟩ | ⟨k, ht, _⟩ | ⟨id, k, ht, he, hj⟩ | ⟨l, k, ht, he, hj⟩
      · cases hj
      · exact leave_goes (k := k) M hn (.inr ht)
      · cases hj
      · cases hj
    · trivial
  · rename_i b hn
    exact roundEnd_goes M hn hnd ht

theorem step_goes {S : Sum} (hS : SumOk P S) (hSb : ∀ f args h v g, S f args h = some (v, g) → ∃ fn, P.funcs[f]? = some fn ∧ fn.body.isSome = true) (hN : ∀ (g : Nat) (fn : Func), P.funcs[g]? = some fn → (fn.name == "runtime.NumGoroutine") = false) (hmix : P.follows .mixedOrders = true) {m : AM} {fr : Frame} {cs : List Frame} {w : World} (M : MR P N own w0 cs0 f0 ρ0 n0 m fr cs w) :
    Goes P N own w0 cs0 f0 ρ0 n0 (stepA P S m) fr cs w := by
  by_cases hd : ∃ ops all done floats rest wait k, m.top.todo = .dreg ops all done floats rest wait :: k
  · obtain ⟨ops, all, done, floats, rest, wait, k, ht⟩ := hd
    obtain ⟨hw, _⟩ := M.top _ _ _ _ _ _ _ ht
    subst hw
    have : stepA P S m = stepD P S m ops all done floats k rest := by unfold stepA; simp only [ht]
    rw [this]
    exact stepD_goes hS hSb hN M ht
  have hnd : ∀ ops all done floats rest wait k, m.top.todo ≠ .dreg ops all done floats rest wait :: k := fun ops all done floats rest wait k h => hd ⟨ops, all, done, floats, rest, wait, k, h⟩
  obtain ⟨ρ, cfs, B, hB, H, F, SS, hcs, O, X⟩ := id M.ex
  have F : FRp ρ m.top fr := plain_frame F hnd
  have hp : ∃ ρ, FRp ρ m.top fr := ⟨ρ, F⟩
  have htd := F.todo
  unfold stepA
  simp only
  split
  · rename_i ht
    rw [ht] at htd
    cases hft : fr.todo with
    | nil => exact leaveJ_goes M hnd (.inl ⟨hft, rfl⟩)
    | cons x l => rw [hft] at htd; cases htd
  · rename_i k ht
    rw [ht] at htd
    obtain ⟨y, r, hft, hxy, hr⟩ := htd.get
    cases y <;> simp only [IR] at hxy
    subst hxy
    exact leaveJ_goes M hnd (.inr (.inl ⟨r, hft, rfl⟩))
  · rename_i k ht
    rw [ht] at htd
    obtain ⟨y, r, hft, hxy, hr⟩ := htd.get
    cases y <;> simp only [IR] at hxy
    subst hxy
    exact to_goes M hB H F SS hcs O X (hr) (exec_to F.mode (by unfold stepG.exec; rw [hft]))
  · rename_i l k ht
    rw [ht] at htd
    obtain ⟨y, r, hft, hxy, hr⟩ := htd.get
    cases y <;> simp only [IR] at hxy
    subst hxy
    exact to_goes M hB H F SS hcs O X (hr) (exec_to F.mode (by unfold stepG.exec; rw [hft]))
  · rename_i l k ht
    rw [ht] at htd
    obtain ⟨y, r, hft, hxy, hr⟩ := htd.get
    cases y <;> simp only [IR] at hxy
    subst hxy
    exact to_goes M hB H F SS hcs O X (hr) (exec_to F.mode (by unfold stepG.exec; rw [hft]))
  · rename_i l k ht
    rw [ht] at htd
    obtain ⟨y, r, hft, hxy, hr⟩ := htd.get
    cases y <;> simp only [IR] at hxy
    subst hxy
    exact to_goes M hB H F SS hcs O X (hr) (exec_to F.mode (by unfold stepG.exec; rw [hft]))
  · rename_i a b k ht
    rw [ht] at htd
    obtain ⟨y, r, hft, hxy, hr⟩ := htd.get
    cases y <;> simp only [IR] at hxy
    subst hxy
    exact to_goes M hB H F SS hcs O X (.cons (ir_code a) (.cons (ir_code b) hr)) (exec_to F.mode (by unfold stepG.exec; rw [hft]))
  · rename_i c t e k ht
    rw [ht] at htd
    obtain ⟨y, r, hft, hxy, hr⟩ := htd.get
    cases y <;> simp only [IR] at hxy
    subst hxy
    split
    · rename_i hc
      have hb := VR_bool (F.eval c _ hc)
      exact to_goes M hB H F SS hcs O X (.cons (ir_code _) hr) (exec_to F.mode (by unfold stepG.exec; rw [hft]; simp only [hb, if_true]))
    · rename_i hc
      have hb := VR_bool (F.eval c _ hc)
      exact to_goes M hB H F SS hcs O X (.cons (ir_code _) hr) (exec_to F.mode (by unfold stepG.exec; rw [hft]; simp only [hb, Bool.false_eq_true, if_false]))
    · trivial
  · rename_i id b k ht
    rw [ht] at htd
    obtain ⟨y, r, hft, hxy, hr⟩ := htd.get
    cases y <;> simp only [IR] at hxy
    subst hxy
    exact to_goes M hB H F SS hcs O X (.cons (ir_code _) (.cons (ir_block _) hr)) (exec_to F.mode (by unfold stepG.exec; rw [hft]))
  · rename_i b k ht
    rw [ht] at htd
    obtain ⟨y, r, hft, hxy, hr⟩ := htd.get
    cases y <;> simp only [IR] at hxy
    subst hxy
    exact to_goes M hB H F SS hcs O X (.cons (ir_code _) (.cons (ir_loop _) hr)) (exec_to F.mode (by unfold stepG.exec; rw [hft]))
  · rename_i b k ht
    rw [ht] at htd
    obtain ⟨y, r, hft, hxy, hr⟩ := htd.get
    cases y <;> simp only [IR] at hxy
    subst hxy
    exact to_goes M hB H F SS hcs O X (.cons (ir_code _) (.cons (ir_loop _) hr)) (exec_to F.mode (by unfold stepG.exec; rw [hft]))
  · rename_i b k ht
    rw [ht] at htd
    obtain ⟨y, r, hft, hxy, hr⟩ := htd.get
    cases y <;> simp only [IR] at hxy
    subst hxy
    exact to_goes M hB H F SS hcs O X (.cons (ir_code _) (.cons (ir_scope _) hr)) (exec_to F.mode (by unfold stepG.exec; rw [hft]))
  · rename_i id k ht
    rw [ht] at htd
    obtain ⟨y, r, hft, hxy, hr⟩ := htd.get
    cases y <;> simp only [IR] at hxy
    subst hxy
    split
    · rename_i k' hk'
      obtain ⟨l', h1, h2⟩ := exitTo_rel id hr hk'
      exact to_goes M hB H F SS hcs O X (h2) (exec_to F.mode (by unfold stepG.exec; rw [hft]; simp only [h1, Option.elim]))
    · rename_i hk'
      exact leaveJ_goes M hnd (.inr (.inr (.inl ⟨_, _, hft, exitTo_none id hr hk', rfl⟩)))
  · rename_i l k ht
    rw [ht] at htd
    obtain ⟨y, r, hft, hxy, hr⟩ := htd.get
    cases y <;> simp only [IR] at hxy
    subst hxy
    split
    · rename_i k' hk'
      obtain ⟨l', h1, h2⟩ := gotoIn_rel l hr hk'
      exact to_goes M hB H F SS hcs O X (h2) (exec_to F.mode (by unfold stepG.exec; rw [hft]; simp only [h1, Option.elim]))
    · rename_i hk'
      exact leaveJ_goes M hnd (.inr (.inr (.inr ⟨_, _, hft, gotoIn_none l hr hk', rfl⟩)))
  · rename_i id ops k ht
    rw [ht] at htd
    obtain ⟨y, r, hft, hxy, hr⟩ := htd.get
    cases y <;> simp only [IR] at hxy
    subst hxy
    exact to_goes M hB H F SS hcs O X (.cons (ir_reg ops) hr) (exec_to F.mode (by unfold stepG.exec; rw [hft]; simp only [Bool.not_false, if_true]))
  · rename_i id ops k ht
    rw [ht] at htd
    obtain ⟨y, r, hft, hxy, hr⟩ := htd.get
    cases y <;> simp only [IR] at hxy
    subst hxy
    split
    · rename_i all hall
      obtain ⟨t, hst⟩ := draw_step (P := P) (cs := cs) (w := w) F.mode hmix hft
      refine fun _ => ⟨_, cs, w.drew, .one hst, ⟨⟨ρ, cfs, B, hB, H.drew, .inr (draw_frame F hall hr t), SS, hcs, O, X⟩, ?_, M.keep.trans (Keep.drew w), M.size, ?_⟩⟩
      · intro o2 a2 d2 f2 r2 w2 k2 h2
        cases h2; exact ⟨rfl, by simp⟩
      · rw [← M.bot]; exact bot_fn (t := (⟨m.top.fn, m.top.ctl, m.top.n, m.top.tmps, .dreg ops all 0 [] all none :: k⟩ : AFr)) (t' := m.top) rfl m.below
    · trivial
  · rename_i f params assign body k ht
    rw [ht] at htd
    obtain ⟨y, r, hft, hxy, hr⟩ := htd.get
    cases y <;> simp only [IR] at hxy
    subst hxy
    split
    · rename_i g first cap hf
      split
      · rename_i h marks l hl
        split
        · rename_i a ha
          have hb : ∃ fn, P.funcs[g]? = some fn ∧ fn.body.isSome = true := by
            unfold enterA at ha
            split at ha
            · rename_i fn hfn
              split at ha
              · rename_i c hc; exact ⟨fn, hfn, by simp [hc]⟩
              · cases ha
            · cases ha
          obtain ⟨ρ2, cargs, fr2, w2, hst, hv, H2, x2, K2, O2, hnx, F2⟩ := loop_enter (P := P) (cs := cs) H O M.size F hft hr hl hf hb hN
          obtain ⟨h3, h4, _⟩ := enter_rel ha hv
          refine fun _ => ⟨_, fr2 :: cs, w2, .one hst, ⟨⟨ρ2, fr2 :: cfs, B, Nat.le_trans hB hnx, H2, .inl h3, ⟨fr2, cfs, B, rfl, Nat.le_refl _, .inl F2, SS.ext x2.1 (fun b hb => x2.2 b (by omega))⟩, by rw [hcs]; rfl, O2, X.then x2.1 (fun b hb => x2.2 b (by have := SS.le; omega))⟩, topok_plain h3 _, M.keep.trans K2, Nat.le_trans M.size K2.size, ?_⟩⟩
          rw [← M.bot]; exact bot_fn (t := (⟨m.top.fn, ⟨m.top.ctl.rnd, marks⟩, m.top.n, m.top.tmps, .inRF l :: k⟩ : AFr)) (t' := m.top) rfl m.below
        · trivial
      · trivial
    · trivial
  · trivial
  · rename_i b k ht
    rw [ht] at htd
    obtain ⟨y, r, hft, hxy, hr⟩ := htd.get
    cases y <;> simp only [IR] at hxy
    obtain ⟨cb, hb, rfl⟩ := hxy
    split
    · rename_i st pd lfn ln ltmps lparams lassign lbody hg
      obtain ⟨rl, hw, L⟩ := H.blk _ _ hg cb hb
      split
      · trivial
      · rename_i hnb
        obtain ⟨H1, K1⟩ := H.turn O hb hg (o' := .loop ⟨.exhausted, pd, lfn, ln, ltmps, lparams, lassign, lbody⟩) (obj := .loop { rl with state := .exhausted }) ⟨_, rfl, ⟨rfl, L.pending, L.fn, L.size, L.tmps, L.params, L.assign, L.body⟩⟩
        have F' : FRp ρ ⟨m.top.fn, m.top.ctl, m.top.n, m.top.tmps, (match (generalizing := false) pd with | none => k | some c => .code c :: k)⟩ { fr with todo := (rl.pending.map Item.code).toList ++ r } := by
          refine ⟨F.fn, F.mode, F.kind, F.defers, F.round, F.size, F.tmps, ?_⟩
          rw [L.pending]
          cases pd with
          | none => exact hr
          | some c => exact .cons rfl hr
        refine fun _ => ⟨_, cs, _, .one (endLoop_step F.mode hw (by rw [L.state]; exact fun e => hnb e) hft), ⟨⟨ρ, cfs, B, hB, H1, .inl F', SS, hcs, O, X⟩, topok_plain F' _, M.keep.trans K1, Nat.le_trans M.size K1.size, ?_⟩⟩
        rw [← M.bot]; exact bot_fn (t := (⟨m.top.fn, m.top.ctl, m.top.n, m.top.tmps, (match (generalizing := false) pd with | none => k | some c => .code c :: k)⟩ : AFr)) (t' := m.top) rfl m.below
    · trivial
  · rename_i k ht
    rw [ht] at htd
    obtain ⟨y, r, hft, hxy, hr⟩ := htd.get
    cases y <;> simp only [IR] at hxy
    split
    · trivial
    · rename_i b hrnd
      split
      · rename_i st pd lfn ln ltmps lparams lassign lbody hg
        have hro := F.round
        rw [hrnd] at hro
        obtain ⟨cb, hb, hro⟩ := hro
        obtain ⟨rl, hw, L⟩ := H.blk _ _ hg cb hb
        split
        · rename_i hst
          obtain ⟨H1, K1⟩ := H.turn O hb hg (o' := .loop ⟨.busy, pd, lfn, ln, ltmps, lparams, lassign, lbody⟩) (obj := .loop { rl with state := .busy }) ⟨_, rfl, ⟨rfl, L.pending, L.fn, L.size, L.tmps, L.params, L.assign, L.body⟩⟩
          have F' : FRp ρ ⟨m.top.fn, m.top.ctl, m.top.n, m.top.tmps, k⟩ { fr with todo := r } := ⟨F.fn, F.mode, F.kind, F.defers, F.round, F.size, F.tmps, hr⟩
          refine fun _ => ⟨_, cs, _, .one (begin_step F.mode hro hw (by rw [L.state]) hft), ⟨⟨ρ, cfs, B, hB, H1, .inl F', SS, hcs, O, X⟩, topok_plain F' _, M.keep.trans K1, Nat.le_trans M.size K1.size, ?_⟩⟩
          rw [← M.bot]; exact bot_fn (t := (⟨m.top.fn, m.top.ctl, m.top.n, m.top.tmps, k⟩ : AFr)) (t' := m.top) rfl m.below
        · trivial
      · trivial
  · trivial
  · rename_i ops all done floats rest k ht
    exact absurd ht (hnd _ _ _ _ _ _ _)
  · rename_i ops all done floats rest x k ht
    exact absurd ht (hnd _ _ _ _ _ _ _)
  · rename_i ops k ht
    rw [ht] at htd
    obtain ⟨y, r, hft, hxy, hr⟩ := htd.get
    cases y <;> simp only [IR] at hxy
    rename_i ops' l
    obtain ⟨rfl, i, n, hin, hrest, rfl⟩ := hxy
    have hn : n = 0 := by
      have := congrArg List.length hrest
      simp at this; omega
    subst hn
    exact to_goes M hB H F SS hcs O X (hr) (exec_to F.mode (by unfold stepG.exec; rw [hft]; simp only [List.range'_zero]))
  · rename_i ops o rest k ht
    obtain ⟨i, l, kc, hft, ho, hr⟩ := reg_cons F ht
    split
    · trivial
    · rename_i hg
      have hw := guard_rel F hg
      split
      · rename_i ts hts
        obtain ⟨i', l', kc', hti, hoi, hfr⟩ := F.finish ht (v := undefA) (c := undef) (by simp [undefA, VR, VRs, undef]) hts
        refine fun _ => ⟨_, cs, w, .one (skip_step F.mode hft ho hw), ⟨⟨ρ, cfs, B, hB, H, .inl hfr, SS, hcs, O, X⟩, topok_plain hfr _, M.keep, M.size, ?_⟩⟩
        rw [← M.bot]
        exact bot_fn (t := (⟨m.top.fn, m.top.ctl, m.top.n, ts, .reg ops rest :: k⟩ : AFr)) (t' := m.top) rfl m.below
      · trivial
    · rename_i hg
      have hw := guard_rel F hg
      split
      · split
        · rename_i c hop
          split
          · rename_i g args hca
            split
            · rename_i v h' hsum
              obtain ⟨cargs, h1, h2⟩ := callee_rel (P := P) F.eval hca hop w (hSb _ _ _ _ _ hsum) hN
              obtain ⟨ρ2, c, w2, k1, k2, k3, k4, k5, k6⟩ := sum_steps hS hsum H h2 O M.size (call_step (P := P) (cs := cs) F.mode hft ho hw h1)
              exact next_goes M ht k2 k3 (F.ext k6.1) (Nat.le_trans hB (hS _ _ _ _ _ hsum).1) (SS.ext k6.1 (fun b hb => k6.2 b (by omega))) hcs k5 (X.then k6.1 (fun b hb => k6.2 b (by have := SS.le; omega))) k4 k1
            · split
              · rename_i a ha
                have hb : ∃ fn, P.funcs[g]? = some fn ∧ fn.body.isSome = true := by
                  unfold enterA at ha
                  split at ha
                  · rename_i fn hfn
                    split at ha
                    · rename_i c hc; exact ⟨fn, hfn, by simp [hc]⟩
                    · cases ha
                  · cases ha
                obtain ⟨cargs, h1, h2⟩ := callee_rel (P := P) F.eval hca hop w hb hN
                obtain ⟨h3, h4, _⟩ := enter_rel ha h2
                refine fun _ => ⟨_, fr :: cs, w, .one (call_step F.mode hft ho hw h1), ⟨⟨ρ, fr :: cfs, B, hB, H, .inl h3, ⟨fr, cfs, B, rfl, Nat.le_refl _, .inl F, SS⟩, by rw [hcs]; rfl, O, X⟩, topok_plain h3 _, M.keep, M.size, ?_⟩⟩
                exact M.bot
              · trivial
          · split
            · rename_i b as hya
              split
              · rename_i a ha
                obtain ⟨cb, rl, ts, hcb, hwl, h1, h3⟩ := yield_rel (P := P) H F.eval hya hop ha
                refine fun _ => ⟨_, fr :: cs, w, .one (round_step F.mode hft ho hw h1), ⟨⟨ρ, fr :: cfs, B, hB, H, .inl h3, ⟨fr, cfs, B, rfl, Nat.le_refl _, .inl F, SS⟩, by rw [hcs]; rfl, O, X⟩, topok_plain h3 _, M.keep, M.size, ?_⟩⟩
                exact M.bot
              · trivial
            · trivial
        · trivial
      · split
        · rename_i v h' hp'
          obtain ⟨ρ', c, w', nx, h1, h2, h3, h4, h5, h6, h7⟩ := plain_sound (P := P) (N := N) (own := own) w H O M.size F.eval hp'
          exact next_goes M ht h3 h4 (F.ext h5.1) (Nat.le_trans hB (plainOp_next hp')) (SS.ext h5.1 (fun b hb => h5.2 b (by omega))) hcs h7 (X.then h5.1 (fun b hb => h5.2 b (by have := SS.le; omega))) h6 (.one (oper_step F.mode hft ho hw h1 h2))
        · trivial

theorem star_goes {S : Sum} (hS : SumOk P S) (hSb : ∀ f args h v g, S f args h = some (v, g) → ∃ fn, P.funcs[f]? = some fn ∧ fn.body.isSome = true) (hN : ∀ (g : Nat) (fn : Func), P.funcs[g]? = some fn → (fn.name == "runtime.NumGoroutine") = false) (hmix : P.follows .mixedOrders = true) {m m' : AM} (h : Star P S m m') :
    ∀ {fr : Frame} {cs : List Frame} {w : World}, MR P N own w0 cs0 f0 ρ0 n0 m fr cs w → Goes P N own w0 cs0 f0 ρ0 n0 (.run m') fr cs w := by
  induction h with
  | refl m => exact fun M hl => ⟨_, _, _, Steps.refl _ _, M⟩
  | @cons m m1 m2 e s ih =>
    intro fr cs w M hl
    have h1 := step_goes hS hSb hN hmix M
    rw [e] at h1
    obtain ⟨fr', cs', w', s1, M'⟩ := h1 (fun x hx => hl x (star_log s x hx))
    obtain ⟨fr2, cs2, w2, s2, M2⟩ := ih M' hl
    exact ⟨fr2, cs2, w2, s1.trans s2, M2⟩
  | pad _ _ ih => exact fun M hl => ih ⟨M.ex, M.top, M.keep, M.size, M.bot⟩ hl

theorem reach_goes {S : Sum} (hS : SumOk P S) (hSb : ∀ f args h v g, S f args h = some (v, g) → ∃ fn, P.funcs[f]? = some fn ∧ fn.body.isSome = true) (hN : ∀ (g : Nat) (fn : Func), P.funcs[g]? = some fn → (fn.name == "runtime.NumGoroutine") = false) (hmix : P.follows .mixedOrders = true) {m : AM} {r : ARes} (h : Reach P S m r)
    {fr : Frame} {cs : List Frame} {w : World} (M : MR P N own w0 cs0 f0 ρ0 n0 m fr cs w) : Goes P N own w0 cs0 f0 ρ0 n0 r fr cs w := by
  cases r with
  | run m' => exact fun hl => star_goes hS hSb hN hmix (h hl) M hl
  | bad n => trivial
  | done v h' l =>
    intro hl
    obtain ⟨m1, s, e⟩ := h hl
    have hlog := step_log (P := P) (S := S) (m := m1)
    rw [e] at hlog
    obtain ⟨fr', cs', w', s1, M'⟩ := star_goes hS hSb hN hmix s M (fun x hx => hl x (hlog x hx))
    have h2 := step_goes hS hSb hN hmix M'
    rw [e] at h2
    obtain ⟨ρ, c, fr2, w2, s2, h3⟩ := h2 hl
    exact ⟨ρ, c, fr2, w2, s1.trans s2, h3⟩

/-- what is known for ever is so -/
def FzOk (fz : Nat → Option (Array Value)) (w : World) : Prop := ∀ k arr, fz k = some arr → ∃ elem f, w.heap[k]? = some (.cells arr elem f)
theorem HRel.emptyF {fz : Nat → Option (Array Value)} {w : World} (h : FzOk fz w) : HRel ⟨fun _ => none, fz⟩ AH.empty w :=
  ⟨(fun b o hg => by simp [AH.empty, Tr.get] at hg), (fun b b' cb cb' _ _ _ hb => by cases hb), (fun _ _ => rfl), (fun b _ => by simp [AH.empty, Tr.get]), (fun b cb hb => by cases hb), (fun b o hg => by simp [AH.empty, Tr.get] at hg), Nat.le_refl 8, h,
    (fun b o cb hg => by simp [AH.empty, Tr.get] at hg)⟩
def rho0 : Rho := ⟨fun _ => none, fun _ => none⟩
theorem Owned.rho0 {N : Nat} {own : Own} : Owned N own EV.rho0 := ⟨fun b cb _ hb => (by cases hb), fun k arr h => (by cases h)⟩
theorem HRel.empty (w : World) : HRel rho0 AH.empty w := HRel.emptyF (fun k arr h => by cases h)

/-- the program, and what is known of its calls -/
structure Good (P : Program) (S : Sum) : Prop where
  sum : SumOk P S
  body : ∀ f args h v g, S f args h = some (v, g) → ∃ fn, P.funcs[f]? = some fn ∧ fn.body.isSome = true
  num : ∀ (g : Nat) (fn : Func), P.funcs[g]? = some fn → (fn.name == "runtime.NumGoroutine") = false
  mix : P.follows .mixedOrders = true

/-- a call: what the abstract machine comes to -/
theorem calls_of_run {S : Sum} (G : Good P S) {f : FuncId} {args : List AV} {h0 : AH} {hs : Hints} {m : AM} (hst : startA P f args h0 hs = some m) {k : Nat} {v : AV} {h : AH} {l : Log} (hr : runX P (toT S) k m = .done v h l) (hl : LogOk l)
    (N : Nat) (own : Own) (ρ : Rho) (w : World) (cargs : List Value) (H : HRel ρ h0 w) (hv : VRs ρ args cargs) (O : Owned N own ρ) (hN : N ≤ w.heap.size) :
    Calls P f cargs.toArray w fun e w' => ∃ ρ' c, e = .returned c ∧ VR ρ' v c ∧ HRel ρ' h w' ∧ Keep N own w w' ∧ Owned N own ρ' ∧ Ext2 h0.next ρ ρ' := by
  intro cs
  unfold startA at hst
  split at hst
  · rename_i a ha
    simp at hst; subst hst
    obtain ⟨F, hfn, _⟩ := enter_rel ha hv
    have M : MR P N own w cs f ρ h0.next ⟨a, [], h0, ⟨hs, noSure⟩, []⟩ (Frame.enter P f cargs.toArray .normal) cs w :=
      ⟨⟨ρ, [], h0.next, Nat.le_refl _, H, .inl F, ⟨rfl, Nat.le_refl _⟩, rfl, O, Ext2.refl _ ρ⟩, topok_plain F _, Keep.refl _ _ w, hN, hfn⟩
    have R := runX_reach (P := P) (U := toT S) k ⟨a, [], h0, ⟨hs, noSure⟩, []⟩
    rw [cutT_toT] at R
    have := reach_goes G.sum G.body G.num G.mix R M
    rw [hr] at this
    obtain ⟨ρ', c, fr', w', s, hl, hf, h1, h2, h3, h4, h5⟩ := this hl
    exact ⟨.returned c, w', fr', ⟨ρ', c, rfl, h1, h2, h3, h4, h5⟩, s, hf, hl⟩
  · cases hst

theorem noSum_ok : SumOk P noSum := fun f args h v h' e => by cases e

theorem good_num (hN : (P.funcs.toList.all fun fn => !(fn.name == "runtime.NumGoroutine")) = true) : ∀ (g : Nat) (fn : Func), P.funcs[g]? = some fn → (fn.name == "runtime.NumGoroutine") = false := by
  intro g fn hg
  rw [List.all_eq_true] at hN
  have := hN fn (by
    have h1 : P.funcs.toList[g]? = some fn := by simpa using hg
    exact List.mem_of_getElem? h1)
  simpa using this

theorem good_none (hN : (P.funcs.toList.all fun fn => !(fn.name == "runtime.NumGoroutine")) = true) (hmix : P.follows .mixedOrders = true) : Good P noSum :=
  ⟨noSum_ok, fun f args h v h' e => (by cases e), good_num hN, hmix⟩

/-- a call without arguments that answers a bool -/
theorem live_calls (G : Good P noSum) {f : FuncId} {k : Nat} {b : Bool} (hr : liveA P f k = some (.bool b)) (N : Nat) (own : Own) (w : World) (hN : N ≤ w.heap.size) :
    Calls P f #[] w fun e w' => e = .returned (.bool b) ∧ Keep N own w w' := by
  unfold liveA at hr
  split at hr
  · rename_i m hm
    split at hr
    · rename_i v h hrun
      simp at hr; subst hr
      have := calls_of_run G hm hrun (by intro e he; cases he) N own rho0 w [] (HRel.empty w) (by simp [VRs]) Owned.rho0 hN
      refine this.mono ?_
      rintro e w' ⟨ρ', c, rfl, h1, _, h3, _⟩
      exact ⟨by rw [VR_bool h1], h3⟩
    · cases hr
  · cases hr

/-- a call without arguments that answers true -/
theorem true_calls {S : Sum} (G : Good P S) {f : FuncId} {k : Nat} (hr : liveT P S f k = true) (N : Nat) (own : Own) (w : World) (hN : N ≤ w.heap.size) :
    Calls P f #[] w fun e w' => e = .returned (.bool true) ∧ Keep N own w w' := by
  unfold liveT at hr
  cases hm : startA P f [] .empty noHint with
  | none => rw [hm] at hr; cases hr
  | some m =>
    rw [hm] at hr
    have hr : liveR (runX P (toT S) k m) = true := hr
    cases hrun : runX P (toT S) k m with
    | run m' => rw [hrun] at hr; cases hr
    | bad n => rw [hrun] at hr; cases hr
    | done v h l =>
      rw [hrun] at hr
      cases l with
      | cons x l => cases hr
      | nil =>
        have hv : v = .bool true := by
          cases v with
          | bool b => cases b with
            | true => rfl
            | false => cases hr
          | _ => cases hr
        subst hv
        have := calls_of_run G hm hrun (by intro e he; cases he) N own rho0 w [] (HRel.empty w) (by simp [VRs]) Owned.rho0 hN
        refine this.mono ?_
        rintro e w' ⟨ρ', c, rfl, h1, _, h3, _⟩
        exact ⟨by rw [VR_bool h1], h3⟩
end
end Go.EV
