/- Own text of this claim: an abstract machine over the given program form, and what follows from it. No condition. -/
import Derived.Test.YtekijepgmmemiaaGreatEvF
set_option linter.unusedVariables false
set_option linter.unusedSimpArgs false
set_option maxHeartbeats 1000000
namespace Go.EV
section
variable {P : Program} {N : Nat} {own : Own} {w0 : World} {cs0 : List Frame} {f0 : FuncId} {ρ0 : Rho} {n0 : Nat}

theorem lightOp_spec {g : Nat → Option AV} {h h' : AH} {op : Op} {v : AV} {fl : Option Float} (e : lightOp P g h op = some (v, h', fl)) :
    (kindOf op = .pure ∧ pureOp P (evF g) op = some v ∧ h' = h ∧ fl = none) ∨
    (∃ t a p, op = .load t a ∧ evF g a = some p ∧ loadA P h t p = some v ∧ h' = h ∧ fl = some (.load t p v)) ∨
    (∃ n z, newOp P (evF g) h.next op = some (.row n z .nil, v) ∧ h' = h.new (.row n z .nil) ∧ fl = some (.new h.next n z)) ∨
    (newOp P (evF g) h.next op = some (.map [] 0, v) ∧ h' = h.new (.map [] 0) ∧ fl = some (.newMap h.next)) ∨
    (∃ t a cs k, op = .load t a ∧ evF g a = some (.lp cs k) ∧ part P t cs k = some v ∧ h' = h ∧ fl = none) := by
  unfold lightOp at e
  split at e
  · rename_i hk
    split at e
    · rename_i u hu
      simp at e; obtain ⟨rfl, rfl, rfl⟩ := e
      exact .inl ⟨hk, hu, rfl, rfl⟩
    · simp at e
  · split at e
    · rename_i t a
      split at e
      · rename_i cs k ha
        split at e
        · rename_i u hu
          simp at e; obtain ⟨rfl, rfl, rfl⟩ := e
          exact .inr (.inr (.inr (.inr ⟨_, _, cs, k, rfl, ha, hu, rfl, rfl⟩)))
        · simp at e
      · rename_i p _ ha
        split at e
        · rename_i u hu
          simp at e; obtain ⟨rfl, rfl, rfl⟩ := e
          exact .inr (.inl ⟨_, _, p, rfl, ha, hu, rfl, rfl⟩)
        · simp at e
      · simp at e
    · simp at e
  · split at e
    · rename_i n z u hu
      simp at e; obtain ⟨rfl, rfl, rfl⟩ := e
      exact .inr (.inr (.inl ⟨n, z, hu, rfl, rfl⟩))
    · rename_i u hu
      simp at e; obtain ⟨rfl, rfl, rfl⟩ := e
      exact .inr (.inr (.inr (.inl ⟨hu, rfl, rfl⟩)))
    · simp at e
  · simp at e

theorem put_next {h h' : AH} {b off : Nat} {vs : List AV} (e : h.put b off vs = some h') : h'.next = h.next := by
  unfold AH.put at e
  split at e
  · split at e
    · simp at e; subst e; rfl
    · simp at e
  · simp at e

theorem append_next {h h' : AH} {t t2 : TypeId} {s x v : AV} (e : appendV P h t t2 s x = some (v, h')) : h.next ≤ h'.next := by
  unfold appendV at e
  repeat' (split at e)
  all_goals first
    | (simp at e; done)
    | (simp only [Option.some.injEq, Prod.mk.injEq] at e
       obtain ⟨-, rfl⟩ := e
       first
         | (rename_i hp; rw [put_next hp]; exact Nat.le_refl _)
         | exact Nat.le_succ _
         | exact Nat.le_refl _)

theorem appendE_next {h h' : AH} {t t2 : TypeId} {s x v : AV} (e : appendE P h t t2 s x = some (v, h')) : h.next ≤ h'.next := by
  unfold appendE at e
  repeat' (split at e)
  all_goals first
    | (simp at e; done)
    | (simp only [Option.some.injEq, Prod.mk.injEq] at e
       obtain ⟨-, rfl⟩ := e
       first
         | exact Nat.le_succ _
         | exact Nat.le_refl _)
theorem appendA_next {h h' : AH} {t t2 : TypeId} {s x v : AV} (e : appendA P h t t2 s x = some (v, h')) : h.next ≤ h'.next := by
  unfold appendA at e
  split at e
  · exact appendE_next e
  · exact append_next e
theorem storeA_next {h h' : AH} {t : TypeId} {p v : AV} (hs : storeA P h t p v = some h') : h'.next = h.next := by
  unfold storeA at hs
  split at hs
  · unfold storeV at hs
    split at hs
    · split at hs
      · exact put_next hs
      · simp at hs
    · simp at hs
  · repeat' (split at hs)
    all_goals first
      | (simp at hs; done)
      | (simp only [Option.some.injEq] at hs; subst hs; rfl)
  · simp at hs
theorem copyA_next {h h' : AH} {t : TypeId} {d s v : AV} (e : copyA P h t d s = some (v, h')) : h.next ≤ h'.next := by
  unfold copyA at e
  split at e
  · unfold copyE at e
    repeat' (split at e)
    all_goals first
      | (simp at e; done)
      | (simp only [Option.some.injEq, Prod.mk.injEq] at e
         obtain ⟨-, rfl⟩ := e
         exact Nat.le_refl _)
  · unfold copyV at e
    repeat' (split at e)
    all_goals first
      | (simp at e; done)
      | (simp only [Option.some.injEq, Prod.mk.injEq] at e
         obtain ⟨-, rfl⟩ := e
         first
           | (rename_i hp; rw [put_next hp]; exact Nat.le_refl _)
           | exact Nat.le_refl _)
theorem clearA_next {h h' : AH} {t : TypeId} {x : AV} (e : clearA P h t x = some h') : h'.next = h.next := by
  unfold clearA at e
  repeat' (split at e)
  all_goals first
    | (simp at e; done)
    | (simp only [Option.some.injEq] at e; subst e; rfl)
    | exact put_next e
theorem effOp_next {f : Operand → Option AV} {h h' : AH} {op : Op} {v : AV} (e : effOp P f h op = some (v, h')) : h.next ≤ h'.next := by
  unfold effOp at e
  split at e
  · split at e
    · split at e
      · rename_i hs
        simp only [Option.some.injEq, Prod.mk.injEq] at e
        obtain ⟨-, rfl⟩ := e
        rw [storeA_next hs]; exact Nat.le_refl _
      · simp at e
    · simp at e
  · split at e
    · split at e
      · exact appendA_next e
      · simp at e
    · simp at e
  · split at e
    · split at e
      · exact copyA_next e
      · simp at e
    · simp at e
  · split at e
    · split at e
      · split at e
        · rename_i hs
          simp only [Option.some.injEq, Prod.mk.injEq] at e
          obtain ⟨-, rfl⟩ := e
          rw [clearA_next hs]; exact Nat.le_refl _
        · simp at e
      · simp at e
    · simp at e
  · split at e
    · split at e
      · simp only [Option.some.injEq, Prod.mk.injEq] at e
        obtain ⟨-, rfl⟩ := e
        exact Nat.le_refl _
      · simp at e
    · simp at e
  · split at e
    · split at e
      · rename_i hs
        simp only [Option.some.injEq, Prod.mk.injEq] at e
        obtain ⟨-, rfl⟩ := e
        unfold updateV at hs
        repeat' (split at hs)
        all_goals first
          | (simp at hs; done)
          | (simp only [Option.some.injEq] at hs; subst hs; exact Nat.le_refl _)
      · simp at e
    · simp at e
  · simp at e

theorem dreg_frame {ρ : Rho} {lo hi : Nat} {a : AFr} {f : Frame} (F : FR P ρ lo hi a f) {ops : Array Oper} {all : List RI} {done : Nat} {floats : List (Nat × Float)} {rest : List RI} {wait : Option RI} {k : List AItem}
    (ht : a.todo = .dreg ops all done floats rest wait :: k) : FRd P ρ lo hi a f := by
  rcases F with F | F
  · have htd := F.todo
    rw [ht] at htd
    obtain ⟨y, r, hft, hxy, hr⟩ := htd.get
    cases y <;> simp only [IR] at hxy
  · exact F

/-- what is told of calls holds of them -/
def SumOk (P : Program) (S : Sum) : Prop := ∀ (f : FuncId) (args : List AV) (h : AH) (v : AV) (g : Option AH), S f args h = some (v, g) → h.next ≤ (behind h g).next ∧
  ∀ (N : Nat) (own : Own) (ρ : Rho) (w : World) (cargs : List Value), HRel ρ h w → VRs ρ args cargs → Owned N own ρ → N ≤ w.heap.size →
    Calls P f cargs.toArray w fun e w' => ∃ ρ' c, e = .returned c ∧ VR ρ' v c ∧ HRel ρ' (behind h g) w' ∧ Keep N own w w' ∧ Owned N own ρ' ∧ Ext2 h.next ρ ρ'

/-- a call that is known: from the operation to what stands behind it -/
theorem sum_steps {S : Sum} (hS : SumOk P S) {f : FuncId} {args : List AV} {h : AH} {h' : Option AH} {v : AV} (hs : S f args h = some (v, h')) {ρ : Rho} {w : World} {cargs : List Value} (H : HRel ρ h w) (hv : VRs ρ args cargs) (O : Owned N own ρ) (hN : N ≤ w.heap.size)
    {fr : Frame} {cs : List Frame} (hc : step P (lone fr cs w) = .next (lone (Frame.enter P f cargs.toArray .normal) (fr :: cs) w)) :
    ∃ ρ' c w', Steps P (lone fr cs w) (lone (fr.finish c) cs w') ∧ VR ρ' v c ∧ HRel ρ' (behind h h') w' ∧ Keep N own w w' ∧ Owned N own ρ' ∧ Ext2 h.next ρ ρ' := by
  obtain ⟨e, w', fr', ⟨ρ', c, rfl, h1, h2, h3, h4, h5⟩, hcomes, _, hl⟩ := (hS f args h v h' hs).2 N own ρ w cargs H hv O hN (fr :: cs)
  exact ⟨ρ', c, w', .head hc (Steps.trans hcomes (.one (step_leave_returned hl))), h1, h2, h3, h4, h5⟩

theorem heavyA_goes {m : AM} {fr : Frame} {cs : List Frame} {w w2 : World} (M : MR P N own w0 cs0 f0 ρ0 n0 m fr cs w) {ops : Array Oper} {all : List RI} {done : Nat} {floats : List (Nat × Float)} {k : List AItem} {x : RI} {v : AV} {h' : AH} {c : Value} {r : List Nat} {kc : List Item} {tmps1 : Array Value} {ρ1 ρ2 : Rho} {B : Nat} {cfs : List Frame}
    (D1 : DI P ρ1 B m.heap.next ops all done floats m.top.tmps.get tmps1 (x.i :: r)) (hx : all[x.i]? = some x) (hxd : done.testBit x.i = false) (he : allBits done (edgesOf x.o) = true) (hz : tmps1.size = m.top.n)
    (e : fr.fn = m.top.fn ∧ fr.mode = .run ∧ fr.kind = .normal ∧ MarksR ρ2 m.top.ctl.marks fr.defers ∧ RoundR ρ2 m.top.ctl.rnd fr.roundOf) (g3 : All2 (IR ρ2) k kc) (hB : B ≤ m.heap.next) (S1 : SR P ρ1 n0 B m.below cfs) (hcs : cs = cfs ++ cs0) (X1 : Ext2 n0 ρ0 ρ1)
    (f3 : VR ρ2 v c) (f4 : HRel ρ2 h' w2) (f5 : Ext2 m.heap.next ρ1 ρ2) (f7 : Owned N own ρ2) (hnext : m.heap.next ≤ h'.next) (K : Keep N own w w2)
    (hst : Steps P (lone fr cs w) (lone (({ fr with tmps := tmps1, todo := .inRegion ops (x.i :: r) :: kc } : Frame).finish c) cs w2))
    {re : Option (List (Nat × Float))} (hre : ∀ fl, re = some fl → (∀ p ∈ fl, p ∈ floats) ∧ (∀ p ∈ floats, x.mask.testBit p.1 = false → p ∈ fl) ∧ ∀ p ∈ fl, FlOk P h' p.2) :
    Goes P N own w0 cs0 f0 ρ0 n0 (heavyA P m ops all done floats k x v h' re) fr cs w := by
  obtain ⟨e1, e2, e3, e4, e5⟩ := e
  obtain ⟨hox, _, hdx⟩ := dst_of D1.info hx
  unfold heavyA
  split
  rename_i v' l' htold
  split
  · rename_i ts fl hts
    intro hl
    obtain ⟨rfl, _⟩ := told_ok htold hl
    obtain ⟨q1, q2, q3⟩ := hre fl rfl
    have D2 := D1.both (ρ' := ρ2) (hi' := h'.next) hx hxd he hts hz f5.1 (fun b _ hb => f5.2 b hb) hnext f3 q1 q2
    have hfin := finish_put (f := { fr with tmps := tmps1, todo := .inRegion ops (x.i :: r) :: kc }) rfl hox c
    rw [hfin] at hst
    refine ⟨_, cs, w2, hst, ⟨⟨ρ2, cfs, B, Nat.le_trans hB hnext, f4, .inr ⟨e1, e2, e3, e4, e5, by rw [putDst_size]; exact hz, ops, all, _, fl, all, none, k, kc, r, rfl, rfl, g3, D2, mem_rest D1.info, trivial⟩, S1.ext f5.1 (fun b hb => f5.2 b (by omega)), hcs, f7, X1.then f5.1 (fun b hb => f5.2 b (by have := S1.le; omega))⟩, ?_, M.keep.trans K, Nat.le_trans M.size K.size, ?_⟩⟩
    · intro o2 a2 d2 f2' r2 w2' k2 h2
      cases h2; exact ⟨rfl, q3⟩
    · rw [← M.bot]; exact bot_fn (t := (⟨m.top.fn, m.top.ctl, m.top.n, ts, .dreg ops all (done ||| 2 ^ x.i) fl all none :: k⟩ : AFr)) (t' := m.top) rfl m.below
  · trivial

theorem stepD_goes {S : Sum} (hS : SumOk P S) (hSb : ∀ f args h v g, S f args h = some (v, g) → ∃ fn, P.funcs[f]? = some fn ∧ fn.body.isSome = true) (hN : ∀ (g : Nat) (fn : Func), P.funcs[g]? = some fn → (fn.name == "runtime.NumGoroutine") = false) {m : AM} {fr : Frame} {cs : List Frame} {w : World} (M : MR P N own w0 cs0 f0 ρ0 n0 m fr cs w)
    {ops : Array Oper} {all : List RI} {done : Nat} {floats : List (Nat × Float)} {rest : List RI} {k : List AItem} (ht : m.top.todo = .dreg ops all done floats rest none :: k) :
    Goes P N own w0 cs0 f0 ρ0 n0 (stepD P S m ops all done floats k rest) fr cs w := by
  obtain ⟨ρ, cfs, B, hB, H, F, SS, hcs, O, X⟩ := id M.ex
  obtain ⟨e1, e2, e3, e4, e5, e6, ops', all', done', floats', rest', wait', k', kc, L, g1, g2, g3, g4, g5, _⟩ := dreg_frame F ht
  rw [ht] at g1; cases g1
  obtain ⟨_, hfl⟩ := M.top _ _ _ _ _ _ _ ht
  have hbot : ∀ {a' : AFr}, a'.fn = m.top.fn → EV.bot a' m.below = f0 := fun ha => by rw [← M.bot]; exact bot_fn ha m.below
  -- a step above that the machine below does not take part in
  have stay : ∀ {ts : Tr AV} {done' : Nat} {fl' : List (Nat × Float)} {r : List RI} {h' : AH} {l : Log}, HRel ρ h' w → m.heap.next ≤ h'.next → (∀ x ∈ r, all[x.i]? = some x) → (∀ p ∈ fl', FlOk P h' p.2) →
      DI P ρ B h'.next ops all done' fl' ts.get fr.tmps L → Goes P N own w0 cs0 f0 ρ0 n0 (.run ⟨⟨m.top.fn, m.top.ctl, m.top.n, ts, .dreg ops all done' fl' r none :: k⟩, m.below, h', m.hints, l⟩) fr cs w := by
    intro ts done' fl' r h' l H' hn hr hf D
    refine fun _ => ⟨fr, cs, w, Steps.refl P _, ⟨⟨ρ, cfs, B, Nat.le_trans hB hn, H', .inr ⟨e1, e2, e3, e4, e5, e6, ops, all, done', fl', r, none, k, kc, L, rfl, g2, g3, D, hr, trivial⟩, SS, hcs, O, X⟩, ?_, M.keep, M.size, hbot rfl⟩⟩
    intro o2 a2 d2 f2 r2 w2 k2 h2
    cases h2; exact ⟨rfl, hf⟩
  cases rest with
  | cons x r =>
    have hx := g5 x (List.mem_cons_self ..)
    have hr : ∀ y ∈ r, all[y.i]? = some y := fun y hy => g5 y (List.mem_cons_of_mem _ hy)
    have hxl : x.i < ops.size := by rw [← g4.info.len]; exact (List.getElem?_eq_some_iff.mp hx).1
    simp only [stepD]
    split
    · exact stay H (Nat.le_refl _) hr hfl g4
    · rename_i hc
      simp only [Bool.or_eq_false_iff, Bool.not_eq_false'] at hc
      obtain ⟨hd, he⟩ := hc
      split
      · trivial
      · rename_i hg
        unfold lightA
        split
        · rename_i ts hts
          refine stay H (Nat.le_refl _) hr hfl (g4.above hx hd he hts e6 (Nat.le_refl _) (fun _ h => h) g4.uniq (.inl ⟨hg, rfl⟩))
        · trivial
      · rename_i hg
        split
        · exact stay H (Nat.le_refl _) hr hfl g4
        · split
          · trivial
          · rename_i v h' fl hli
            generalize htold : told m.top.fn m.hints x.o.dst v m.log = tt
            obtain ⟨v', l'⟩ := tt
            simp only []
            unfold lightA
            split
            · rename_i ts hts
              intro hlog
              obtain ⟨rfl, _⟩ := told_ok htold hlog
              revert hlog
              rcases lightOp_spec hli with ⟨hk, hp, rfl, rfl⟩ | ⟨t, a, p, hop, ha, hl, rfl, rfl⟩ | ⟨n, z, hn, rfl, rfl⟩ | ⟨hn, rfl, rfl⟩ | ⟨t, a, cs, k, hop, ha, hl, rfl, rfl⟩
              · exact stay H (Nat.le_refl _) hr hfl (g4.above hx hd he hts e6 (Nat.le_refl _) (fun _ h => h) g4.uniq (.inr ⟨hg, .inl ⟨hk, hp⟩⟩))
              · refine stay H (Nat.le_refl _) hr (fun p hp => ?_) (g4.above hx hd he hts e6 (Nat.le_refl _) (fun _ h => List.mem_cons_of_mem _ h) ?_ (.inr ⟨hg, .inr (.inl ⟨t, a, p, hop, ha, List.mem_cons_self ..⟩)⟩))
                · rcases List.mem_cons.mp hp with rfl | hp
                  · exact hl
                  · exact hfl p hp
                · intro p hp q hq b hb1 hb2
                  rcases List.mem_cons.mp hp with rfl | hp
                  · cases hb1
                  · rcases List.mem_cons.mp hq with rfl | hq
                    · cases hb2
                    · exact g4.uniq p hp q hq b hb1 hb2
              · refine stay (H.above _) (by simp [AH.new]) hr (fun p hp => ?_) (g4.above hx hd he hts e6 (by simp [AH.new]) (fun _ h => List.mem_cons_of_mem _ h) ?_ (.inr ⟨hg, .inr (.inr (.inl ⟨m.heap.next, n, z, hn, hB, by simp [AH.new], H.fresh _ (Nat.le_refl _), List.mem_cons_self ..⟩))⟩))
                · rcases List.mem_cons.mp hp with rfl | hp
                  · simp only [FlOk, AH.new]; rw [Tr.get_set, if_pos rfl]
                  · exact flok_new H _ (hfl p hp)
                · intro p hp q hq b hb1 hb2
                  rcases List.mem_cons.mp hp with rfl | hp
                  · rcases List.mem_cons.mp hq with rfl | hq
                    · rfl
                    · have := newOf_lt H (hfl q hq) hb2
                      cases hb1; omega
                  · rcases List.mem_cons.mp hq with rfl | hq
                    · have := newOf_lt H (hfl p hp) hb1
                      cases hb2; omega
                    · exact g4.uniq p hp q hq b hb1 hb2
              · refine stay (H.above _) (by simp [AH.new]) hr (fun p hp => ?_) (g4.above hx hd he hts e6 (by simp [AH.new]) (fun _ h => List.mem_cons_of_mem _ h) ?_ (.inr ⟨hg, .inr (.inr (.inr (.inl ⟨m.heap.next, hn, hB, by simp [AH.new], H.fresh _ (Nat.le_refl _), List.mem_cons_self ..⟩)))⟩))
                · rcases List.mem_cons.mp hp with rfl | hp
                  · simp only [FlOk, AH.new]; rw [Tr.get_set, if_pos rfl]
                  · exact flok_new H _ (hfl p hp)
                · intro p hp q hq b hb1 hb2
                  rcases List.mem_cons.mp hp with rfl | hp
                  · rcases List.mem_cons.mp hq with rfl | hq
                    · rfl
                    · have := newOf_lt H (hfl q hq) hb2
                      cases hb1; omega
                  · rcases List.mem_cons.mp hq with rfl | hq
                    · have := newOf_lt H (hfl p hp) hb1
                      cases hb2; omega
                    · exact g4.uniq p hp q hq b hb1 hb2
              · exact stay H (Nat.le_refl _) hr hfl (g4.above hx hd he hts e6 (Nat.le_refl _) (fun _ h => h) g4.uniq (.inr ⟨hg, .inr (.inr (.inr (.inr ⟨t, a, cs, k, hop, ha, hl⟩)))⟩))
            · trivial
  | nil =>
    obtain ⟨ρ1, tmps1, w1, L1, s1, z1, D1, H1, x1, l1, K1, O1, r1⟩ := catch_up (cs := cs) e2 g2 g4 H O M.size hfl (Nat.le_refl _)
    have S1 : SR P ρ1 n0 B m.below cfs := SS.ext x1 l1
    have X1 : Ext2 n0 ρ0 ρ1 := X.then x1 (fun b hb => l1 b (by have := SS.le; omega))
    have hN1 : N ≤ w1.heap.size := Nat.le_trans M.size K1.size
    simp only [stepD]
    split
    · rename_i hno
      have hall := firstOf_none hno
      have hL : L1 = [] := by
        rcases r1 with h | ⟨i, r, rfl, hd⟩
        · exact h
        · exfalso
          obtain ⟨x, hx⟩ := info_at D1.info (D1.lt i (List.mem_cons_self ..))
          have := hall x (List.mem_iff_getElem?.mpr ⟨i, hx⟩)
          rw [(dst_of D1.info hx).2.1, hd] at this; cases this
      subst hL
      obtain ⟨vals, g0, v1, v2, v3⟩ := D1.vals
      have F1 : FRp ρ1 ⟨m.top.fn, m.top.ctl, m.top.n, m.top.tmps, k⟩ { fr with tmps := tmps1, todo := kc } := by
        refine ⟨e1, e2, e3, e4.ext x1, e5.ext x1, by rw [← e6]; exact z1, fun t v hv => ?_, g3.mono (IR.ext x1)⟩
        rw [v1 t, cur_congr (W' := inD []) (fun j hj _ => by rw [D1.sub j hj (by simp)]; rfl)] at hv
        exact v2 t v hv
      refine fun _ => ⟨{ fr with tmps := tmps1, todo := kc }, cs, w1, s1.trans (.one ?_), ⟨⟨ρ1, cfs, B, hB, H1, .inl F1, S1, hcs, O1, X1⟩, topok_plain F1 _, M.keep.trans K1, hN1, hbot rfl⟩⟩
      exact exec_to (f := { fr with tmps := tmps1, todo := .inRegion ops [] :: kc }) e2 (by unfold stepG.exec; rfl)
    · rename_i x hfst
      obtain ⟨hxa, hxd⟩ := firstOf_some hfst
      have hx := mem_rest D1.info x hxa
      have hxl : x.i < ops.size := by rw [← D1.info.len]; exact (List.getElem?_eq_some_iff.mp hx).1
      obtain ⟨hox, _, hdx⟩ := dst_of D1.info hx
      split
      · rename_i hc hg
        simp only [Bool.and_eq_true] at hc
        obtain ⟨⟨hfi, he⟩, hhv⟩ := hc
        have he' := allBits_iff.mp he
        -- the head of what is left below is just this one
        have hL : ∃ r, L1 = x.i :: r := by
          rcases r1 with rfl | ⟨i, r, rfl, hd⟩
          · have := D1.sub x.i hxl (by simp); rw [hxd] at this; cases this
          · obtain ⟨t1, t2, t3, t4⟩ := D1.topo.tail
            obtain ⟨y, hy⟩ := info_at D1.info t1
            obtain ⟨hoy, hyi, _⟩ := dst_of D1.info hy
            rcases isFirst_spec hfi y (List.mem_iff_getElem?.mpr ⟨i, hy⟩) with h | h | h
            · rw [hyi, hd] at h; cases h
            · rw [hyi] at h; subst h; exact ⟨r, rfl⟩
            · have := D1.info.mask (fun l => inD (i :: r) l = true ∨ l = i) (fun a o ho ha l hl => by
                rcases ha with ha | rfl
                · exact .inl (D1.closedD a o ho ha l hl)
                · exact .inl (inD_iff.mpr (t3 o ho l hl))) i y hy (.inr rfl) x.i h
              rcases this with h | h
              · exfalso
                rw [inD_iff] at h
                have := D1.sub x.i hxl h
                rw [hxd] at this; cases this
              · exact ⟨r, by rw [h]⟩
        obtain ⟨r, rfl⟩ := hL
        obtain ⟨vals, g0, v1, v2, v3⟩ := id D1.vals
        obtain ⟨t1, t2, t3, t4⟩ := D1.topo.tail
        have hnL : inD (x.i :: r) x.i = false := inD_false.mpr (List.mem_cons_self ..)
        have henv : only x.nm m.top.tmps.get = only x.nm (cur ops vals g0 (inD (x.i :: r))) := by
          rw [show m.top.tmps.get = cur ops vals g0 done.testBit from funext v1, env_eq (P := P) D1.info D1.closed hx hxd he',
            env_eq (P := P) D1.info D1.closedD hx hnL (fun j hj => inD_iff.mpr (t3 _ hox j hj))]
        have hGR : GR ρ1 (only x.nm m.top.tmps.get) tmps1 := by
          rw [henv]; exact GR.only (fun t v h => v2 t v h) x.nm
        have hw : Region.wanted x.o (yielded ops tmps1) = true := hGR.wanted hg
        split
        · split
          · rename_i c hop
            split
            · rename_i g args hca
              split
              · rename_i v h' hsum
                have hcal : ∃ cargs, (execOp ({ fr with tmps := tmps1, todo := .inRegion ops (x.i :: r) :: kc } : Frame).eval x.o).run P w1 = .ok (.enter g cargs.toArray) w1 ∧ VRs ρ1 args cargs := by
                  refine callee_rel (P := P) (hGR.evR (f := { fr with tmps := tmps1, todo := .inRegion ops (x.i :: r) :: kc })) hca hop w1 ?_ hN
                  exact hSb _ _ _ _ _ hsum
                obtain ⟨cargs, h1, h2⟩ := hcal
                have hst := call_step (P := P) (f := { fr with tmps := tmps1, todo := .inRegion ops (x.i :: r) :: kc }) (cs := cs) e2 rfl hox hw h1
                obtain ⟨ρ2, c, w2, k1, k2, k3, k4, k5, k6⟩ := sum_steps hS hsum H1 h2 O1 hN1 hst
                exact heavyA_goes M D1 hx hxd he (by rw [← e6]; exact z1) ⟨e1, e2, e3, (e4.ext x1).ext k6.1, (e5.ext x1).ext k6.1⟩ ((g3.mono (IR.ext x1)).mono (IR.ext k6.1)) hB S1 hcs X1 k2 k3 k6 k5 (hS _ _ _ _ _ hsum).1 (K1.trans k4) (s1.trans k1) (fun fl hfl => recheck_parts hfl)
              · rename_i v hsum
                have hcal : ∃ cargs, (execOp ({ fr with tmps := tmps1, todo := .inRegion ops (x.i :: r) :: kc } : Frame).eval x.o).run P w1 = .ok (.enter g cargs.toArray) w1 ∧ VRs ρ1 args cargs := by
                  refine callee_rel (P := P) (hGR.evR (f := { fr with tmps := tmps1, todo := .inRegion ops (x.i :: r) :: kc })) hca hop w1 ?_ hN
                  exact hSb _ _ _ _ _ hsum
                obtain ⟨cargs, h1, h2⟩ := hcal
                have hst := call_step (P := P) (f := { fr with tmps := tmps1, todo := .inRegion ops (x.i :: r) :: kc }) (cs := cs) e2 rfl hox hw h1
                obtain ⟨ρ2, c, w2, k1, k2, k3, k4, k5, k6⟩ := sum_steps hS hsum H1 h2 O1 hN1 hst
                exact heavyA_goes M D1 hx hxd he (by rw [← e6]; exact z1) ⟨e1, e2, e3, (e4.ext x1).ext k6.1, (e5.ext x1).ext k6.1⟩ ((g3.mono (IR.ext x1)).mono (IR.ext k6.1)) hB S1 hcs X1 k2 k3 k6 k5 (hS _ _ _ _ _ hsum).1 (K1.trans k4) (s1.trans k1) (fun fl hfe => by simp only [Option.some.injEq] at hfe; subst hfe; exact ⟨fun _ h => h, fun _ h _ => h, hfl⟩)
              · split
                · rename_i a ha
                  have hb : ∃ fn, P.funcs[g]? = some fn ∧ fn.body.isSome = true := by
                    unfold enterA at ha
                    split at ha
                    · rename_i fn hfn
                      split at ha
                      · rename_i c hc; exact ⟨fn, hfn, by simp [hc]⟩
                      · cases ha
                    · cases ha
                  obtain ⟨cargs, h1, h2⟩ := callee_rel (P := P) (e := ({ fr with tmps := tmps1, todo := .inRegion ops (x.i :: r) :: kc } : Frame).eval) (hGR.evR (f := { fr with tmps := tmps1, todo := .inRegion ops (x.i :: r) :: kc })) hca hop w1 hb hN
                  obtain ⟨h3, h4, _⟩ := enter_rel ha h2
                  refine fun _ => ⟨_, { fr with tmps := tmps1, todo := .inRegion ops (x.i :: r) :: kc } :: cs, w1, s1.trans (.one (call_step (f := { fr with tmps := tmps1, todo := .inRegion ops (x.i :: r) :: kc }) e2 rfl hox hw h1)), ⟨⟨ρ1, { fr with tmps := tmps1, todo := .inRegion ops (x.i :: r) :: kc } :: cfs, m.heap.next, Nat.le_refl _, H1, .inl h3, ?_, by rw [hcs]; rfl, O1, X1⟩, topok_plain h3 _, M.keep.trans K1, hN1, ?_⟩⟩
                  · simp only [SR]
                    refine ⟨_, _, B, rfl, hB, .inr ⟨e1, e2, e3, e4.ext x1, e5.ext x1, by rw [← e6]; exact z1, ops, all, done, floats, [], some x, k, kc, x.i :: r, rfl, rfl, g3.mono (IR.ext x1), D1, by simp, r, rfl, hx, hxd, he⟩, S1⟩
                  · exact hbot rfl
                · trivial
            · split
              · rename_i b as hya
                split
                · rename_i a ha
                  obtain ⟨cb, rl, ts, hcb, hwl, h1, h3⟩ := yield_rel (P := P) H1 (e := ({ fr with tmps := tmps1, todo := .inRegion ops (x.i :: r) :: kc } : Frame).eval) (hGR.evR (f := { fr with tmps := tmps1, todo := .inRegion ops (x.i :: r) :: kc })) hya hop ha
                  refine fun _ => ⟨_, { fr with tmps := tmps1, todo := .inRegion ops (x.i :: r) :: kc } :: cs, w1, s1.trans (.one (round_step (f := { fr with tmps := tmps1, todo := .inRegion ops (x.i :: r) :: kc }) e2 rfl hox hw h1)), ⟨⟨ρ1, { fr with tmps := tmps1, todo := .inRegion ops (x.i :: r) :: kc } :: cfs, m.heap.next, Nat.le_refl _, H1, .inl h3, ?_, by rw [hcs]; rfl, O1, X1⟩, topok_plain h3 _, M.keep.trans K1, hN1, ?_⟩⟩
                  · simp only [SR]
                    refine ⟨_, _, B, rfl, hB, .inr ⟨e1, e2, e3, e4.ext x1, e5.ext x1, by rw [← e6]; exact z1, ops, all, done, floats, [], some x, k, kc, x.i :: r, rfl, rfl, g3.mono (IR.ext x1), D1, by simp, r, rfl, hx, hxd, he⟩, S1⟩
                  · exact hbot rfl
                · trivial
              · trivial
          · trivial
        · split
          · rename_i v h' hef
            obtain ⟨ρ2, c, w2, nx, f1, f2, f3, f4, f5, f6, f7⟩ := eff_sound (P := P) (N := N) (own := own) w1 H1 O1 hN1 (e := ({ fr with tmps := tmps1, todo := .inRegion ops (x.i :: r) :: kc } : Frame).eval) (hGR.evR (f := { fr with tmps := tmps1, todo := .inRegion ops (x.i :: r) :: kc })) hef
            have hst := oper_step (f := { fr with tmps := tmps1, todo := .inRegion ops (x.i :: r) :: kc }) (cs := cs) e2 rfl hox hw f1 f2
            exact heavyA_goes M D1 hx hxd he (by rw [← e6]; exact z1) ⟨e1, e2, e3, (e4.ext x1).ext f5.1, (e5.ext x1).ext f5.1⟩ ((g3.mono (IR.ext x1)).mono (IR.ext f5.1)) hB S1 hcs X1 f3 f4 f5 f7 (effOp_next hef) (K1.trans f6) (s1.trans (.one hst)) (fun fl hfl => recheck_parts hfl)
          · trivial
      · trivial
end
end Go.EV
