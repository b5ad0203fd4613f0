/- Own text of this claim: an abstract machine over the given program form, and what follows from it. No condition. -/
import Derived.Test.YtekijepgmmemiaaGreatEvT2
set_option linter.unusedVariables false
set_option linter.unusedSimpArgs false
set_option maxHeartbeats 1000000
namespace Go.EV
noncomputable section
variable {P : Program} {p : Nat}

/-! calls in a region that draws its order -/
variable {N : Nat} {own : Own} {w0 : World} {cs0 : List Frame} {f0 : FuncId} {ρ0 : Rho} {n0 : Nat}
/-- where the machine below stands, when the one above comes to a heavy operation -/
theorem heavy_at {m : AM} {fr : Frame} {cs : List Frame} {w : World} (M : MR P N own w0 cs0 f0 ρ0 n0 m fr cs w)
    {ops : Array Oper} {all : List RI} {done : Nat} {floats : List (Nat × Float)} {k : List AItem} (ht : m.top.todo = .dreg ops all done floats [] none :: k) {x : RI} (hfst : firstOf done all = some x)
    (hc : (isFirst done x all && allBits done (edgesOf x.o) && isHeavy x.o.op) = true) (hg : guardF ops (only x.nm m.top.tmps.get) x.o = some true) :
    ∃ ρ1 cfs B tmps1 w1 r kc, B ≤ m.heap.next ∧ HRel ρ1 m.heap w1 ∧ Owned N own ρ1 ∧ N ≤ w1.heap.size ∧ Keep N own w w1 ∧ SR P ρ1 n0 B m.below cfs ∧ cs = cfs ++ cs0 ∧ Ext2 n0 ρ0 ρ1 ∧
      Steps P (lone fr cs w) (lone { fr with tmps := tmps1, todo := .inRegion ops (x.i :: r) :: kc } cs w1) ∧ DI P ρ1 B m.heap.next ops all done floats m.top.tmps.get tmps1 (x.i :: r) ∧ all[x.i]? = some x ∧ done.testBit x.i = false ∧ allBits done (edgesOf x.o) = true ∧ tmps1.size = m.top.n ∧
      fr.fn = m.top.fn ∧ fr.mode = .run ∧ fr.kind = .normal ∧ MarksR ρ1 m.top.ctl.marks fr.defers ∧ RoundR ρ1 m.top.ctl.rnd fr.roundOf ∧ All2 (IR ρ1) k kc ∧ ops[x.i]? = some x.o ∧ GR ρ1 (only x.nm m.top.tmps.get) tmps1 ∧ Region.wanted x.o (yielded ops tmps1) = true ∧ (∀ p ∈ floats, FlOk P m.heap p.2) := by
  obtain ⟨ρ, cfs, B, hB, H, F, SS, hcs, O, X⟩ := id M.ex
  obtain ⟨e1, e2, e3, e4, e5, e6, ops', all', done', floats', rest', wait', k', kc, L, g1, g2, g3, g4, g5, _⟩ := dreg_frame F ht
  rw [ht] at g1; cases g1
  obtain ⟨_, hfl⟩ := M.top _ _ _ _ _ _ _ ht
  obtain ⟨ρ1, tmps1, w1, L1, s1, z1, D1, H1, x1, l1, K1, O1, r1⟩ := catch_up (cs := cs) e2 g2 g4 H O M.size hfl (Nat.le_refl _)
  have S1 : SR P ρ1 n0 B m.below cfs := SS.ext x1 l1
  have X1 : Ext2 n0 ρ0 ρ1 := X.then x1 (fun b hb => l1 b (by have := SS.le; omega))
  have hN1 : N ≤ w1.heap.size := Nat.le_trans M.size K1.size
  obtain ⟨hxa, hxd⟩ := firstOf_some hfst
  have hx := mem_rest D1.info x hxa
  have hxl : x.i < ops.size := by rw [← D1.info.len]; exact (List.getElem?_eq_some_iff.mp hx).1
  obtain ⟨hox, _, hdx⟩ := dst_of D1.info hx
  simp only [Bool.and_eq_true] at hc
  obtain ⟨⟨hfi, he⟩, hhv⟩ := hc
  have he' := allBits_iff.mp he
  have hL : ∃ r, L1 = x.i :: r := by
    rcases r1 with rfl | ⟨i, r, rfl, hd⟩
    · have := D1.sub x.i hxl (by simp); rw [hxd] at this; cases this
    · obtain ⟨t1, t2, t3, t4⟩ := D1.topo.tail
      obtain ⟨y, hy⟩ := info_at D1.info t1
      obtain ⟨hoy, hyi, _⟩ := dst_of D1.info hy
      rcases isFirst_spec hfi y (List.mem_iff_getElem?.mpr ⟨i, hy⟩) with h | h | h
      · rw [hyi, hd] at h; cases h
      · rw [hyi] at h; subst h; exact ⟨r, rfl⟩
      · have := D1.info.mask (fun l => inD (i :: r) l = true ∨ l = i) (fun a o ho ha l hl => by
          rcases ha with ha | rfl
          · exact .inl (D1.closedD a o ho ha l hl)
          · exact .inl (inD_iff.mpr (t3 o ho l hl))) i y hy (.inr rfl) x.i h
        rcases this with h | h
        · exfalso
          rw [inD_iff] at h
          have := D1.sub x.i hxl h
          rw [hxd] at this; cases this
        · exact ⟨r, by rw [h]⟩
  obtain ⟨r, rfl⟩ := hL
  obtain ⟨vals, g0, v1, v2, v3⟩ := id D1.vals
  obtain ⟨t1, t2, t3, t4⟩ := D1.topo.tail
  have hnL : inD (x.i :: r) x.i = false := inD_false.mpr (List.mem_cons_self ..)
  have henv : only x.nm m.top.tmps.get = only x.nm (cur ops vals g0 (inD (x.i :: r))) := by
    rw [show m.top.tmps.get = cur ops vals g0 done.testBit from funext v1, env_eq (P := P) D1.info D1.closed hx hxd he',
      env_eq (P := P) D1.info D1.closedD hx hnL (fun j hj => inD_iff.mpr (t3 _ hox j hj))]
  have hGR : GR ρ1 (only x.nm m.top.tmps.get) tmps1 := by
    rw [henv]; exact GR.only (fun t v h => v2 t v h) x.nm
  have hw : Region.wanted x.o (yielded ops tmps1) = true := hGR.wanted hg
  exact ⟨ρ1, cfs, B, tmps1, w1, r, kc, hB, H1, O1, hN1, K1, S1, hcs, X1, s1, D1, hx, hxd, he, by rw [← e6]; exact z1, e1, e2, e3, e4.ext x1, e5.ext x1, g3.mono (IR.ext x1), hox, hGR, hw, hfl⟩

theorem heavyCall_goes (hN : ∀ (g : Nat) (fn : Func), P.funcs[g]? = some fn → (fn.name == "runtime.NumGoroutine") = false) {m : AM} {fr : Frame} {cs : List Frame} {w : World} (M : MR P N own w0 cs0 f0 ρ0 n0 m fr cs w)
    {ops : Array Oper} {all : List RI} {done : Nat} {floats : List (Nat × Float)} {k : List AItem} (ht : m.top.todo = .dreg ops all done floats [] none :: k) {x : RI} (hfst : firstOf done all = some x)
    (hc : (isFirst done x all && allBits done (edgesOf x.o) && isHeavy x.o.op) = true) (hg : guardF ops (only x.nm m.top.tmps.get) x.o = some true) {c : Call} (hop : x.o.op = .call c) {g : FuncId} {args : List AV} (hca : calleeA (evF (only x.nm m.top.tmps.get)) c = some (g, args))
    (hb : ∃ fn, P.funcs[g]? = some fn ∧ fn.body.isSome = true) {v : AV} {h' : Option AH} (hC : CallOk P g args m.heap v h') {re : Option (List (Nat × Float))}
    (hre : ∀ fl, re = some fl → (∀ p ∈ fl, p ∈ floats) ∧ (∀ p ∈ floats, x.mask.testBit p.1 = false → p ∈ fl) ∧ ((∀ p ∈ floats, FlOk P m.heap p.2) → ∀ p ∈ fl, FlOk P (behind m.heap h') p.2)) :
    Goes P N own w0 cs0 f0 ρ0 n0 (heavyA P m ops all done floats k x v (behind m.heap h') re) fr cs w := by
  obtain ⟨ρ1, cfs, B, tmps1, w1, r, kc, hB, H1, O1, hN1, K1, S1, hcs, X1, s1, D1, hx, hxd, he, hz, e1, e2, e3, e4, e5, g3, hox, hGR, hw, hfl⟩ := heavy_at M ht hfst hc hg
  obtain ⟨cargs, h1, h2⟩ : ∃ cargs, (execOp ({ fr with tmps := tmps1, todo := .inRegion ops (x.i :: r) :: kc } : Frame).eval x.o).run P w1 = .ok (.enter g cargs.toArray) w1 ∧ VRs ρ1 args cargs :=
    callee_rel (P := P) (hGR.evR (f := { fr with tmps := tmps1, todo := .inRegion ops (x.i :: r) :: kc })) hca hop w1 hb hN
  have hst := call_step (P := P) (f := { fr with tmps := tmps1, todo := .inRegion ops (x.i :: r) :: kc }) (cs := cs) e2 rfl hox hw h1
  obtain ⟨e, w2, fr', ⟨ρ2, cv, rfl, k2, k3, k4, k5, k6⟩, hcomes, _, hl⟩ := hC.2 N own ρ1 w1 cargs H1 h2 O1 hN1 (({ fr with tmps := tmps1, todo := .inRegion ops (x.i :: r) :: kc } : Frame) :: cs)
  have k1 : Steps P (lone ({ fr with tmps := tmps1, todo := .inRegion ops (x.i :: r) :: kc } : Frame) cs w1) (lone (({ fr with tmps := tmps1, todo := .inRegion ops (x.i :: r) :: kc } : Frame).finish cv) cs w2) := .head hst (Steps.trans hcomes (.one (step_leave_returned hl)))
  exact heavyA_goes M D1 hx hxd he hz ⟨e1, e2, e3, e4.ext k6.1, e5.ext k6.1⟩ (g3.mono (IR.ext k6.1)) hB S1 hcs X1 k2 k3 k6 k5 hC.1 (K1.trans k4) (s1.trans k1) (fun fl hfe => ⟨(hre fl hfe).1, (hre fl hfe).2.1, (hre fl hfe).2.2 hfl⟩)

theorem heavyEff_goes {m : AM} {fr : Frame} {cs : List Frame} {w : World} (M : MR P N own w0 cs0 f0 ρ0 n0 m fr cs w)
    {ops : Array Oper} {all : List RI} {done : Nat} {floats : List (Nat × Float)} {k : List AItem} (ht : m.top.todo = .dreg ops all done floats [] none :: k) {x : RI} (hfst : firstOf done all = some x)
    (hc : (isFirst done x all && allBits done (edgesOf x.o) && isHeavy x.o.op) = true) (hg : guardF ops (only x.nm m.top.tmps.get) x.o = some true) {v : AV} {h' : AH} {app : Bool} (hef : (effT P app (evF (only x.nm m.top.tmps.get)) m.heap x.o.op).Sel (some (v, h')))
    {re : Option (List (Nat × Float))} (hre : ∀ fl, re = some fl → (∀ p ∈ fl, p ∈ floats) ∧ (∀ p ∈ floats, x.mask.testBit p.1 = false → p ∈ fl) ∧ ∀ p ∈ fl, FlOk P h' p.2) :
    Goes P N own w0 cs0 f0 ρ0 n0 (heavyA P m ops all done floats k x v h' re) fr cs w := by
  obtain ⟨ρ1, cfs, B, tmps1, w1, r, kc, hB, H1, O1, hN1, K1, S1, hcs, X1, s1, D1, hx, hxd, he, hz, e1, e2, e3, e4, e5, g3, hox, hGR, hw, hfl⟩ := heavy_at M ht hfst hc hg
  obtain ⟨ρ2, c, w2, nx, f1, f2, f3, f4, f5, f6, f7⟩ := effT_left (P := P) (N := N) (own := own) w1 H1 O1 hN1 (e := ({ fr with tmps := tmps1, todo := .inRegion ops (x.i :: r) :: kc } : Frame).eval) (hGR.evR (f := { fr with tmps := tmps1, todo := .inRegion ops (x.i :: r) :: kc })) hef
  have hst := oper_step (f := { fr with tmps := tmps1, todo := .inRegion ops (x.i :: r) :: kc }) (cs := cs) e2 rfl hox hw f1 f2
  exact heavyA_goes M D1 hx hxd he hz ⟨e1, e2, e3, e4.ext f5.1, e5.ext f5.1⟩ (g3.mono (IR.ext f5.1)) hB S1 hcs X1 f3 f4 f5 f7 (effT_next hef) (K1.trans f6) (s1.trans (.one hst)) hre

instance decVs (a b : List AV) : Decidable (a = b) := if h : AV.beqs a b = true then isTrue (AV.beqs_eq h) else Classical.propDecidable _
/-- what light operations found must be so still -/
def recheckT (P : Program) (h : AH) (mask : Nat) : List (Nat × Float) → T (Option (List (Nat × Float)))
  | [] => .leaf (some [])
  | (i, fl) :: r => match mask.testBit i with
    | true => recheckT P h mask r
    | false => match fl with
      | .load t p v => match loadA P h t p with
        | some u => T.cki (u = v) ((recheckT P h mask r).bind fun q => match q with
          | some r' => .leaf (some ((i, .load t p v) :: r'))
          | none => .leaf none)
        | none => .leaf none
      | .new b n z => match h.bs.get b with
        | some (.row m y .nil) => match Nat.beq m n with
          | true => T.cki (y = z) ((recheckT P h mask r).bind fun q => match q with
            | some r' => .leaf (some ((i, .new b n z) :: r'))
            | none => .leaf none)
          | false => .leaf none
        | _ => .leaf none
      | fl => match floatOk P h fl with
        | true => (recheckT P h mask r).bind fun q => match q with
          | some r' => .leaf (some ((i, fl) :: r'))
          | none => .leaf none
        | false => .leaf none
theorem recheckT_spec {h : AH} {mask : Nat} : ∀ {fs fs' : List (Nat × Float)}, (recheckT P h mask fs).Sel (some fs') →
    (∀ p ∈ fs', p ∈ fs) ∧ (∀ p ∈ fs, mask.testBit p.1 = false → p ∈ fs') ∧ ∀ p ∈ fs', FlOk P h p.2
  | [], fs', e => by
    have e : some [] = some fs' := e
    cases e
    exact ⟨fun _ h => h, fun _ h _ => h, fun p h => by cases h⟩
  | (i, fl) :: r, fs', e => by
    have more : ∀ {fl2 : Float}, FlOk P h fl2 → fl = fl2 → mask.testBit i = false → ((recheckT P h mask r).bind fun q => match q with
          | some r' => T.leaf (some ((i, fl2) :: r'))
          | none => .leaf none).Sel (some fs') → (∀ p ∈ fs', p ∈ (i, fl) :: r) ∧ (∀ p ∈ (i, fl) :: r, mask.testBit p.1 = false → p ∈ fs') ∧ ∀ p ∈ fs', FlOk P h p.2 := by
      intro fl2 hok hfl hm e
      subst hfl
      obtain ⟨q, q1, q2⟩ := T.sel_bind e
      split at q2
      · rename_i r'
        have q2 : some ((i, fl) :: r') = some fs' := q2
        cases q2
        obtain ⟨a1, a2, a3⟩ := recheckT_spec q1
        refine ⟨fun p hp => ?_, fun p hp hb => ?_, fun p hp => ?_⟩
        · rcases List.mem_cons.mp hp with rfl | hp
          · exact List.mem_cons_self ..
          · exact List.mem_cons_of_mem _ (a1 p hp)
        · rcases List.mem_cons.mp hp with rfl | hp
          · exact List.mem_cons_self ..
          · exact List.mem_cons_of_mem _ (a2 p hp hb)
        · rcases List.mem_cons.mp hp with rfl | hp
          · exact hok
          · exact a3 p hp
      · cases q2
    unfold recheckT at e
    split at e
    · rename_i hm
      obtain ⟨a1, a2, a3⟩ := recheckT_spec e
      refine ⟨fun p hp => List.mem_cons_of_mem _ (a1 p hp), fun p hp hb => ?_, a3⟩
      rcases List.mem_cons.mp hp with rfl | hp
      · rw [hm] at hb; cases hb
      · exact a2 p hp hb
    · rename_i hm
      split at e
      · split at e
        · rename_i u hu
          obtain ⟨rfl, e⟩ := e
          exact more (fl2 := .load _ _ _) hu rfl hm e
        · cases e
      · split at e
        · rename_i hg
          split at e
          · rename_i hmn
            rw [Tr.beq_true] at hmn
            subst hmn
            obtain ⟨rfl, e⟩ := e
            exact more (fl2 := .new _ _ _) hg rfl hm e
          · cases e
        · cases e
      · split at e
        · rename_i hok
          exact more (floatOk_sound hok) rfl hm e
        · cases e

/-! steps -/
abbrev USum := FuncId → List AV → AH → Option (T (AV × Option AH))
/-- contracts hold -/
structure GoodU (P : Program) (U : USum) : Prop where
  ok : ∀ f a h t, U f a h = some t → ∀ v g, t.Sel (v, g) → CallOk P f a h v g
  num : ∀ (g : Nat) (fn : Func), P.funcs[g]? = some fn → (fn.name == "runtime.NumGoroutine") = false
  mix : P.follows .mixedOrders = true

/-- a value's block is found first -/
def frcV {β : Type} (v : AV) (k : AV → β) : β := match v with
  | .ptr b o => forceN b fun b => k (.ptr b o)
  | .sl b o l c e => forceN b fun b => k (.sl b o l c e)
  | .mp b => forceN b fun b => k (.mp b)
  | .yld b => forceN b fun b => k (.yld b)
  | .ep b j x e => forceN b fun b => k (.ep b j x e)
  | .es b j n c e => forceN b fun b => k (.es b j n c e)
  | v => k v
theorem frcV_eq {β : Type} (v : AV) (k : AV → β) : frcV v k = k v := by
  unfold frcV
  cases v <;> simp only [forceN_eq]
def nextL (m : AM) (ops : Array Oper) (rest : List Oper) (k : List AItem) (o : Oper) (v : AV) (h : AH) : Lf := frcV v fun v =>
  match setDst m.top.n m.top.tmps o.dst v with
  | some ts => .to ⟨⟨m.top.fn, m.top.ctl, m.top.n, ts, .reg ops rest :: k⟩, m.below, h, ⟨noHint, noSure⟩, []⟩
  | none => .bad 20
def heavyL (m : AM) (ops : Array Oper) (all : List RI) (done : Nat) (k : List AItem) (x : RI) (v : AV) (h : AH) (fl : List (Nat × Float)) : Lf := frcV v fun v =>
  match setDst m.top.n m.top.tmps x.o.dst v with
  | some ts => .to ⟨⟨m.top.fn, m.top.ctl, m.top.n, ts, .dreg ops all (done ||| 2 ^ x.i) fl all none :: k⟩, m.below, h, ⟨noHint, noSure⟩, []⟩
  | none => .bad 37
def lightL (m : AM) (ops : Array Oper) (all : List RI) (done : Nat) (k : List AItem) (r : List RI) (x : RI) (fl : List (Nat × Float)) (v : AV) (h : AH) : Lf := frcV v fun v =>
  match setDst m.top.n m.top.tmps x.o.dst v with
  | some ts => .to ⟨⟨m.top.fn, m.top.ctl, m.top.n, ts, .dreg ops all (done ||| 2 ^ x.i) fl r none :: k⟩, m.below, h, ⟨noHint, noSure⟩, []⟩
  | none => .bad 33
def quietM (m : AM) : AM := ⟨m.top, m.below, m.heap, ⟨noHint, noSure⟩, []⟩
def slowT (P : Program) (m : AM) : T Lf := .leaf (lfOf (stepA P noSum (quietM m)))
def ekOf (y : Hy) (f : FuncId) (d : Option Tmp) : Bool := match d with | some d => y.ek f d | none => false
def lightT (P : Program) (g : Nat → Option AV) (h : AH) (op : Op) : T (Option (AV × AH × Option Float)) :=
  match kindOf op with
  | .pure => (pureT P (evF g) op).bind fun r => match r with
    | some v => .leaf (some (v, h, none))
    | none => .leaf none
  | _ => .leaf (lightOp P g h op)
def callT (P : Program) (U : USum) (y : Hy) (m : AM) (ops : Array Oper) (o : Oper) (rest : List Oper) (k : List AItem) (f : FuncId) (args : List AV) : T Lf :=
  match U f args m.heap with
  | some t => match hasBody P f with
    | true => t.bind fun r => (valT y m.top.fn o.dst r.1).bind fun v => .leaf (nextL m ops rest k o v (behind m.heap r.2))
    | false => .leaf (.bad 70)
  | none => slowT P m
def regT (P : Program) (U : USum) (y : Hy) (m : AM) (ops : Array Oper) (o : Oper) (rest : List Oper) (k : List AItem) : T Lf :=
  match guardOk ops m.top.tmps o with
  | some true => match o.op with
    | .call c => match calleeA (ev m.top.tmps) c with
      | some (f, args) => callT P U y m ops o rest k f args
      | none => match kindOf o.op with
        | .call => slowT P m
        | _ => plain
    | _ => plain
  | _ => slowT P m
where plain : T Lf := (plainT P (ekOf y m.top.fn o.dst) m.top.tmps m.heap o.op).bind fun r => match r with
      | some (v, h) => (valT y m.top.fn o.dst v).bind fun v => .leaf (nextL m ops rest k o v h)
      | none => .leaf (.bad 12)
def dlightT (P : Program) (y : Hy) (m : AM) (ops : Array Oper) (all : List RI) (done : Nat) (floats : List (Nat × Float)) (k : List AItem) (x : RI) (r : List RI) : T Lf :=
  match done.testBit x.i || !allBits done (edgesOf x.o) with
  | true => slowT P m
  | false => match guardF ops (only x.nm m.top.tmps.get) x.o with
    | some true => match isHeavy x.o.op with
      | true => slowT P m
      | false => (lightT P (only x.nm m.top.tmps.get) m.heap x.o.op).bind fun q => match q with
        | some (v, h, fl) => (valT y m.top.fn x.o.dst v).bind fun v => .leaf (lightL m ops all done k r x (floatsWith x.i fl floats) v h)
        | none => .leaf (.bad 32)
    | _ => slowT P m
def dheavyT (P : Program) (U : USum) (y : Hy) (m : AM) (ops : Array Oper) (all : List RI) (done : Nat) (floats : List (Nat × Float)) (k : List AItem) (x : RI) : T Lf :=
  match isFirst done x all && allBits done (edgesOf x.o) && isHeavy x.o.op with
  | true => match guardF ops (only x.nm m.top.tmps.get) x.o with
    | some true => match x.o.op with
      | .call c => match calleeA (evF (only x.nm m.top.tmps.get)) c with
        | some (f, args) => match U f args m.heap with
          | some t => match hasBody P f with
            | true => t.bind fun r => match r with
              | (v, some h) => (recheckT P h x.mask floats).bind fun q => match q with
                | some fl => (valT y m.top.fn x.o.dst v).bind fun v => .leaf (heavyL m ops all done k x v h fl)
                | none => .leaf (.bad 37)
              | (v, none) => (valT y m.top.fn x.o.dst v).bind fun v => .leaf (heavyL m ops all done k x v m.heap floats)
            | false => .leaf (.bad 70)
          | none => slowT P m
        | none => match kindOf x.o.op with
          | .call => slowT P m
          | _ => eff
      | _ => eff
    | _ => slowT P m
  | false => slowT P m
where eff : T Lf := (effT P (ekOf y m.top.fn x.o.dst) (evF (only x.nm m.top.tmps.get)) m.heap x.o.op).bind fun r => match r with
    | some (v, h) => (recheckT P h x.mask floats).bind fun q => match q with
      | some fl => (valT y m.top.fn x.o.dst v).bind fun v => .leaf (heavyL m ops all done k x v h fl)
      | none => .leaf (.bad 37)
    | none => .leaf (.bad 38)
def stepT (P : Program) (U : USum) (y : Hy) (m : AM) : T Lf :=
  match m.top.todo with
  | .reg ops (o :: rest) :: k => regT P U y m ops o rest k
  | .dreg ops all done floats (x :: r) none :: k => dlightT P y m ops all done floats k x r
  | .dreg ops all done floats [] none :: k => match firstOf done all with
    | some x => dheavyT P U y m ops all done floats k x
    | none => slowT P m
  | _ => slowT P m

/-- a run that comes to an answer, and to a memory -/
def FinP (P : Program) (p : Nat) (m : AM) (v : AV) (h : AH) : Prop :=
  ∀ (N : Nat) (own : Own) (w0 : World) (cs0 : List Frame) (f0 : FuncId) (ρ0 : Rho) (n0 : Nat) (fr : Frame) (cs : List Frame) (w : World), n0 ≤ 8 + p → (∀ b, 8 + p ≤ b → ρ0 b = none) → MR P N own w0 cs0 f0 ρ0 n0 m fr cs w → Done P N own w0 cs0 f0 ρ0 n0 v h fr cs w
def ReachL (P : Program) (p : Nat) (m : AM) : Lf → Prop
  | .to m' => Lead P p m m'
  | .done v h => FinP P p m v h
  | .bad _ => True
theorem ReachL.before {m m' : AM} (L : Lead P p m m') : ∀ {lf : Lf}, ReachL P p m' lf → ReachL P p m lf
  | .to _, h => L.trans h
  | .done v h, e => by
    intro N own w0 cs0 f0 ρ0 n0 fr cs w l1 l2 M
    obtain ⟨fr', cs', w', s, M'⟩ := L N own w0 cs0 f0 ρ0 n0 fr cs w l1 l2 M
    obtain ⟨ρ, c, fr2, w2, s2, e2⟩ := e N own w0 cs0 f0 ρ0 n0 fr' cs' w' l1 l2 M'
    exact ⟨ρ, c, fr2, w2, s.trans s2, e2⟩
  | .bad _, _ => trivial
theorem lead_quiet (m : AM) : Lead P p m (quietM m) := lead_log m.top m.below m.heap m.hints ⟨noHint, noSure⟩ m.log []
/-- a step of which the log is empty -/
theorem reach_goes1 {m : AM} {r : ARes} (hq : r.quiet ⟨noHint, noSure⟩) (hg : ∀ (N : Nat) (own : Own) (w0 : World) (cs0 : List Frame) (f0 : FuncId) (ρ0 : Rho) (n0 : Nat) (fr : Frame) (cs : List Frame) (w : World), MR P N own w0 cs0 f0 ρ0 n0 m fr cs w → Goes P N own w0 cs0 f0 ρ0 n0 r fr cs w) : ReachL P p m (lfOf r) := by
  cases r with
  | run m' =>
    intro N own w0 cs0 f0 ρ0 n0 fr cs w _ _ M
    exact hg N own w0 cs0 f0 ρ0 n0 fr cs w M (fun e he => by rw [hq.1] at he; cases he)
  | done v h l =>
    intro N own w0 cs0 f0 ρ0 n0 fr cs w _ _ M
    have hq : l = [] := hq
    exact hg N own w0 cs0 f0 ρ0 n0 fr cs w M (fun e he => by rw [hq] at he; cases he)
  | bad n => trivial
theorem slow_ok {U : USum} (G : GoodU P U) {m : AM} {lf : Lf} (h : (slowT P m).Sel lf) : ReachL P p m lf := by
  have h : lfOf (stepA P noSum (quietM m)) = lf := h
  subst h
  exact (reach_goes1 (step_quiet (m := quietM m) rfl rfl) (fun N own w0 cs0 f0 ρ0 n0 fr cs w M => step_goes noSum_ok (fun f args h v g e => by cases e) G.num G.mix M)).before (lead_quiet m)

theorem nextL_eq {m : AM} {ops : Array Oper} {rest : List Oper} {k : List AItem} {o : Oper} {v : AV} {h : AH} : nextL m ops rest k o v h = lfOf (nextA (quietM m) ops rest k o v h) := by
  unfold nextL nextA
  rw [frcV_eq]
  simp only [quietM, told_no]
  cases setDst m.top.n m.top.tmps o.dst v <;> rfl
theorem nextA_quiet {m : AM} {ops : Array Oper} {rest : List Oper} {k : List AItem} {o : Oper} {v : AV} {h : AH} : (nextA (quietM m) ops rest k o v h).quiet ⟨noHint, noSure⟩ := by
  unfold nextA
  simp only [quietM, told_no]
  cases setDst m.top.n m.top.tmps o.dst v
  · trivial
  · exact ⟨rfl, rfl⟩
theorem heavyL_eq {m : AM} {ops : Array Oper} {all : List RI} {done : Nat} {floats : List (Nat × Float)} {k : List AItem} {x : RI} {v : AV} {h : AH} {fl : List (Nat × Float)} : heavyL m ops all done k x v h fl = lfOf (heavyA P (quietM m) ops all done floats k x v h (some fl)) := by
  unfold heavyL heavyA
  rw [frcV_eq]
  simp only [quietM, told_no]
  cases setDst m.top.n m.top.tmps x.o.dst v <;> rfl
theorem heavyA_quiet {m : AM} {ops : Array Oper} {all : List RI} {done : Nat} {floats : List (Nat × Float)} {k : List AItem} {x : RI} {v : AV} {h : AH} {fl : List (Nat × Float)} : (heavyA P (quietM m) ops all done floats k x v h (some fl)).quiet ⟨noHint, noSure⟩ := by
  unfold heavyA
  simp only [quietM, told_no]
  cases setDst m.top.n m.top.tmps x.o.dst v
  · trivial
  · exact ⟨rfl, rfl⟩

theorem hasBody_ok {f : FuncId} (h : hasBody P f = true) : ∃ fn, P.funcs[f]? = some fn ∧ fn.body.isSome = true := by
  unfold hasBody at h
  split at h
  · rename_i fn hfn; exact ⟨fn, hfn, h⟩
  · cases h

theorem regT_ok {U : USum} (G : GoodU P U) {y : Hy} {m : AM} {ops : Array Oper} {o : Oper} {rest : List Oper} {k : List AItem} (ht : m.top.todo = .reg ops (o :: rest) :: k) {lf : Lf} (h : (regT P U y m ops o rest k).Sel lf) : ReachL P p m lf := by
  unfold regT at h
  split at h
  · rename_i hg
    have plain : (regT.plain P y m ops o rest k).Sel lf → ReachL P p m lf := by
      intro h
      unfold regT.plain at h
      obtain ⟨r, h1, h2⟩ := T.sel_bind h
      split at h2
      · rename_i v h'
        obtain ⟨u, h3, h4⟩ := T.sel_bind h2
        obtain rfl := valT_ok h3
        have h4 : nextL m ops rest k o u h' = lf := h4
        rw [nextL_eq] at h4
        subst h4
        refine (reach_goes1 nextA_quiet fun N own w0 cs0 f0 ρ0 n0 fr cs w M => ?_).before (lead_quiet m)
        obtain ⟨ρ, cfs, B, hB, H, F, SS, hcs, O, X⟩ := id M.ex
        have hB : B ≤ m.heap.next := hB
        have F : FRp ρ (quietM m).top fr := plain_frame F (fun ops all done floats rest wait k e => by rw [show (quietM m).top.todo = m.top.todo from rfl, ht] at e; cases e)
        obtain ⟨i, l, kc, hft, ho, hr⟩ := reg_cons F ht
        have hw := guard_rel F hg
        obtain ⟨ρ', c, w', nx, q1, q2, q3, q4, q5, q6, q7⟩ := plainT_left (P := P) (N := N) (own := own) w H O M.size F.eval h1
        exact next_goes M ht q3 q4 (F.ext q5.1) (Nat.le_trans hB (plainT_next h1)) (SS.ext q5.1 (fun b hb => q5.2 b (by omega))) hcs q7 (X.then q5.1 (fun b hb => q5.2 b (by have := SS.le; omega))) q6 (.one (oper_step F.mode hft ho hw q1 q2))
      · have h2 : Lf.bad 12 = lf := h2
        subst h2; trivial
    split at h
    · rename_i c hop
      split at h
      · rename_i f args hca
        unfold callT at h
        split at h
        · rename_i t hU
          split at h
          · rename_i hb
            obtain ⟨r, h1, h2⟩ := T.sel_bind h
            obtain ⟨u, h3, h4⟩ := T.sel_bind h2
            obtain rfl := valT_ok h3
            have h4 : nextL m ops rest k o r.1 (behind m.heap r.2) = lf := h4
            rw [nextL_eq] at h4
            subst h4
            refine (reach_goes1 nextA_quiet fun N own w0 cs0 f0 ρ0 n0 fr cs w M => ?_).before (lead_quiet m)
            obtain ⟨ρ, cfs, B, hB, H, F, SS, hcs, O, X⟩ := id M.ex
            have hB : B ≤ m.heap.next := hB
            have F : FRp ρ (quietM m).top fr := plain_frame F (fun ops all done floats rest wait k e => by rw [show (quietM m).top.todo = m.top.todo from rfl, ht] at e; cases e)
            obtain ⟨i, l, kc, hft, ho, hr⟩ := reg_cons F ht
            have hw := guard_rel F hg
            obtain ⟨v, g⟩ := r
            have hC := G.ok f args m.heap t hU v g h1
            obtain ⟨cargs, q1, q2⟩ := callee_rel (P := P) F.eval hca hop w (hasBody_ok hb) G.num
            have hst := call_step (P := P) (cs := cs) F.mode hft ho hw q1
            obtain ⟨e, w2, fr', ⟨ρ2, cv, rfl, k2, k3, k4, k5, k6⟩, hcomes, _, hl⟩ := hC.2 N own ρ w cargs H q2 O M.size (fr :: cs)
            exact next_goes M ht k2 k3 (F.ext k6.1) (Nat.le_trans hB hC.1) (SS.ext k6.1 (fun b hb => k6.2 b (by omega))) hcs k5 (X.then k6.1 (fun b hb => k6.2 b (by have := SS.le; omega))) k4
              (.head hst (Steps.trans hcomes (.one (step_leave_returned hl))))
          · have h : Lf.bad 70 = lf := h
            subst h; trivial
        · exact slow_ok G h
      · split at h
        · exact slow_ok G h
        · exact plain h
    · exact plain h
  · exact slow_ok G h

theorem dlightT_ok {U : USum} (G : GoodU P U) {y : Hy} {m : AM} {ops : Array Oper} {all : List RI} {done : Nat} {floats : List (Nat × Float)} {k : List AItem} {x : RI} {r : List RI} (ht : m.top.todo = .dreg ops all done floats (x :: r) none :: k) {lf : Lf}
    (h : (dlightT P y m ops all done floats k x r).Sel lf) : ReachL P p m lf := by
  unfold dlightT at h
  split at h
  · exact slow_ok G h
  · rename_i hd
    split at h
    · rename_i hg
      split at h
      · exact slow_ok G h
      · rename_i hhv
        obtain ⟨q, h1, h2⟩ := T.sel_bind h
        split at h2
        · rename_i v h' fl
          obtain ⟨u, h3, h4⟩ := T.sel_bind h2
          obtain rfl := valT_ok h3
          have h4 : lightL m ops all done k r x (floatsWith x.i fl floats) u h' = lf := h4
          subst h4
          refine slow_ok G ?_
          show lfOf (stepA P noSum (quietM m)) = _
          have hl : lightOp P (only x.nm m.top.tmps.get) m.heap x.o.op = some (u, h', fl) := by
            unfold lightT at h1
            unfold lightOp
            split at h1
            · rename_i hk
              obtain ⟨q, a1, a2⟩ := T.sel_bind h1
              split at a2
              · have a2 : some (_, m.heap, none) = some (u, h', fl) := a2
                simp only [Option.some.injEq, Prod.mk.injEq] at a2
                obtain ⟨rfl, rfl, rfl⟩ := a2
                rw [hk]
                simp only [pureT_ok a1 (by simp)]
              · cases a2
            · exact h1
          unfold stepA
          simp only [quietM, ht, stepD, hd, hg, hhv, hl, told_no]
          unfold lightL lightA
          rw [frcV_eq]
          cases setDst m.top.n m.top.tmps x.o.dst u <;> rfl
        · have h2 : Lf.bad 32 = lf := h2
          subst h2; trivial
    · exact slow_ok G h

theorem dheavyT_ok {U : USum} (G : GoodU P U) {y : Hy} {m : AM} {ops : Array Oper} {all : List RI} {done : Nat} {floats : List (Nat × Float)} {k : List AItem} {x : RI} (ht : m.top.todo = .dreg ops all done floats [] none :: k) (hf : firstOf done all = some x) {lf : Lf}
    (h : (dheavyT P U y m ops all done floats k x).Sel lf) : ReachL P p m lf := by
  unfold dheavyT at h
  split at h
  · rename_i hc
    split at h
    · rename_i hg
      have eff : (dheavyT.eff P y m ops all done floats k x).Sel lf → ReachL P p m lf := by
        intro h
        unfold dheavyT.eff at h
        obtain ⟨r, h1, h2⟩ := T.sel_bind h
        split at h2
        · rename_i v h'
          obtain ⟨q, h3, h4⟩ := T.sel_bind h2
          split at h4
          · rename_i fl
            obtain ⟨u, h5, h6⟩ := T.sel_bind h4
            obtain rfl := valT_ok h5
            have h6 : heavyL m ops all done k x u h' fl = lf := h6
            rw [heavyL_eq (P := P) (floats := floats)] at h6
            subst h6
            exact (reach_goes1 (m := quietM m) heavyA_quiet fun N own w0 cs0 f0 ρ0 n0 fr cs w M => heavyEff_goes M ht hf hc hg h1 (fun fl' hfe => by simp only [Option.some.injEq] at hfe; subst hfe; exact recheckT_spec h3)).before (lead_quiet m)
          · have h4 : Lf.bad 37 = lf := h4
            subst h4; trivial
        · have h2 : Lf.bad 38 = lf := h2
          subst h2; trivial
      split at h
      · rename_i c hop
        split at h
        · rename_i f args hca
          split at h
          · rename_i t hU
            split at h
            · rename_i hb
              obtain ⟨r, h1, h2⟩ := T.sel_bind h
              split at h2
              · rename_i v h'
                have hC := G.ok f args m.heap t hU v _ h1
                obtain ⟨q, h3, h4⟩ := T.sel_bind h2
                split at h4
                · rename_i fl
                  obtain ⟨u, h5, h6⟩ := T.sel_bind h4
                  obtain rfl := valT_ok h5
                  have h6 : heavyL m ops all done k x u h' fl = lf := h6
                  rw [heavyL_eq (P := P) (floats := floats)] at h6
                  subst h6
                  refine (reach_goes1 (m := quietM m) heavyA_quiet fun N own w0 cs0 f0 ρ0 n0 fr cs w M => heavyCall_goes (h' := some h') G.num M ht hf hc hg hop hca (hasBody_ok hb) hC (fun fl' hfe => ?_)).before (lead_quiet m)
                  simp only [Option.some.injEq] at hfe
                  subst hfe
                  obtain ⟨a1, a2, a3⟩ := recheckT_spec h3
                  exact ⟨a1, a2, fun _ => a3⟩
                · have h4 : Lf.bad 37 = lf := h4
                  subst h4; trivial
              · rename_i v
                have hC := G.ok f args m.heap t hU v _ h1
                obtain ⟨u, h5, h6⟩ := T.sel_bind h2
                obtain rfl := valT_ok h5
                have h6 : heavyL m ops all done k x u m.heap floats = lf := h6
                rw [heavyL_eq (P := P) (floats := floats)] at h6
                subst h6
                refine (reach_goes1 (m := quietM m) heavyA_quiet fun N own w0 cs0 f0 ρ0 n0 fr cs w M => heavyCall_goes (h' := none) G.num M ht hf hc hg hop hca (hasBody_ok hb) hC (fun fl' hfe => ?_)).before (lead_quiet m)
                simp only [Option.some.injEq] at hfe
                subst hfe
                exact ⟨fun _ h => h, fun _ h _ => h, fun h => h⟩
            · have h : Lf.bad 70 = lf := h
              subst h; trivial
          · exact slow_ok G h
        · split at h
          · exact slow_ok G h
          · exact eff h
      · exact eff h
    · exact slow_ok G h
  · exact slow_ok G h

theorem stepT_ok {U : USum} (G : GoodU P U) {y : Hy} {m : AM} {lf : Lf} (h : (stepT P U y m).Sel lf) : ReachL P p m lf := by
  unfold stepT at h
  split at h
  · rename_i ht; exact regT_ok G ht h
  · rename_i ht; exact dlightT_ok G ht h
  · rename_i ht
    split at h
    · rename_i hf; exact dheavyT_ok G ht hf h
    · exact slow_ok G h
  · exact slow_ok G h

/-! runs -/
/-- blocks that slots name, and those that these name, in their order -/
def blkIds : Option ABlk → List Nat
  | some (.row _ z t) => idsVs z ++ Tr.idsT t
  | some (.map es _) => es.foldr (fun e l => idsV e.1 ++ idsV e.2.1 ++ l) []
  | some (.loop x) => Tr.idsT x.tmps
  | _ => []
def closeN (h : AH) : Nat → List Nat → List Nat → List Nat
  | 0, _, acc => acc
  | _ + 1, [], acc => acc
  | f + 1, b :: w, acc => match Nat.blt b 8 || hasN acc b with
    | true => closeN h f w acc
    | false => closeN h f (blkIds (h.bs.get b) ++ w) (acc ++ [b])
def frIds (a : AFr) : List Nat := (match a.ctl.rnd with | some b => [b] | none => []) ++ a.ctl.marks ++ Tr.idsT a.tmps ++ a.todo.foldr (fun i l => match i with | .inRF b => b :: l | .endRF b => b :: l | _ => l) []
def slotIds (t : Tr AV) : List Nat → List Nat
  | [] => []
  | s :: r => match t.get s with
    | some v => idsV v ++ slotIds t r
    | none => slotIds t r
/-- the blocks that keep their numbers -/
def pinL (p : Nat) : List Nat := Nat.rec (motive := fun _ => List Nat → List Nat) (fun l => l) (fun q ih l => ih ((8 + q) :: l)) p []
def blksIds (h : AH) (l : List Nat) : List Nat := List.rec (motive := fun _ => List Nat) [] (fun b _ ih => blkIds (h.bs.get b) ++ ih) l
def gcIds (p : Nat) (slots : List Nat) (m : AM) : List Nat := closeN m.heap 400 (blksIds m.heap (pinL p) ++ (slotIds m.top.tmps slots ++ frIds m.top ++ m.below.foldr (fun a l => frIds a ++ l) [])) (pinL p)
def haltT (p : Nat) (slots : List Nat) (m : AM) : T Lf :=
  match isDreg m.top.todo with
  | false => (fun c => match pinN p (gcIds p slots c) 8 && gcOk (gcIds p slots c) c with
    | true => .ck (blksFree c.heap (gcIds p slots c)) (.leaf (.to (rnM (gcIds p slots c) c)))
    | false => .leaf (.bad 80)) (cutM slots m)
  | true => .leaf (.bad 81)
theorem haltT_ok {slots : List Nat} {m : AM} {lf : Lf} (h : (haltT p slots m).Sel lf) : ReachL P p m lf := by
  unfold haltT at h
  split at h
  · rename_i hd
    have hc : Lead P p m (cutM slots m) := by
      have h3 : Lead P p m ⟨⟨m.top.fn, m.top.ctl, m.top.n, keepT m.top.tmps slots, m.top.todo⟩, m.below, m.heap, m.hints, m.log⟩ := lead_slots (top := m.top) m.below m.heap m.hints m.log hd (keepT_get _ slots)
      exact h3.trans (lead_log _ _ _ _ _ _ _)
    simp only at h
    split at h
    · rename_i hg
      rw [Bool.and_eq_true] at hg
      obtain ⟨hf, h⟩ := h
      have h : Lf.to _ = lf := h
      subst h
      exact hc.trans (lead_gc hg.1 hg.2 hf)
    · have h : Lf.bad 80 = lf := h
      subst h; trivial
  · have h : Lf.bad 81 = lf := h
    subst h; trivial
/-- is a state a head of a loop: of which slots are kept -/
def headOf (y : Hy) (m : AM) : Option (List Nat) :=
  match m.top.todo with
  | .inLoop _ :: k => y.st m.top.fn (lenF k 0)
  | .code c :: k => match c with
    | .loop _ => y.st m.top.fn (lenF k 0)
    | _ => none
  | _ => none
def forceLf (lf : Lf) (k : Lf → T Lf) : T Lf := match lf with
  | .to m => forceM m fun m => k (.to m)
  | lf => k lf
/-- a run is halted where a round of a loop begins -/
def haltL (p : Nat) (slots : List Nat) (lf : Lf) : T Lf := match lf with
  | .to m => haltT p slots m
  | lf => .leaf lf
def contT (P : Program) (U : USum) (y : Hy) (ih : AM → T Lf) (lf : Lf) : T Lf :=
  match lf with
  | .to m => match headOf y m with
    | some slots => (stepT P U y m).bind (haltL y.pn slots)
    | none => ih m
  | lf => .leaf lf
def symT (P : Program) (U : USum) (y : Hy) (n : Nat) : AM → T Lf := Nat.rec (motive := fun _ => AM → T Lf) (fun m => .leaf (.to m)) (fun _ ih m => (stepT P U y m).bind fun lf => forceLf lf (contT P U y ih)) n
theorem symT_ok {U : USum} (G : GoodU P U) {y : Hy} : ∀ {n : Nat} {m : AM} {lf : Lf}, (symT P U y n m).Sel lf → ReachL P y.pn m lf
  | 0, m, lf, h => by
    have h : Lf.to m = lf := h
    subst h; exact Lead.refl m
  | n + 1, m, lf, h => by
    obtain ⟨lf1, h1, h2⟩ := T.sel_bind (t := stepT P U y m) h
    have hs := stepT_ok (p := y.pn) G h1
    cases lf1 with
    | to m1 =>
      have h2 : (forceM m1 fun m => contT P U y (symT P U y n) (.to m)).Sel lf := h2
      rw [forceM_eq] at h2
      unfold contT at h2
      simp only at h2
      split at h2
      · obtain ⟨lf2, h3, h4⟩ := T.sel_bind h2
        have hs2 := stepT_ok (p := y.pn) G h3
        refine ReachL.before hs ?_
        cases lf2 with
        | to m2 => exact ReachL.before hs2 (haltT_ok h4)
        | done v h' =>
          have h4 : Lf.done v h' = lf := h4
          subst h4; exact hs2
        | bad k =>
          have h4 : Lf.bad k = lf := h4
          subst h4; trivial
      · exact ReachL.before hs (symT_ok G h2)
    | done v h' =>
      have h2 : Lf.done v h' = lf := h2
      subst h2; exact hs
    | bad k =>
      have h2 : Lf.bad k = lf := h2
      subst h2; trivial

/-! runs that come to an answer -/
/-- what is known of a run's end -/
def EndsQ (P : Program) (p : Nat) (m : AM) (Q : AV → AH → Prop) : Prop := ∃ v h, Q v h ∧ FinP P p m v h
theorem EndsQ.lead {m m' : AM} {Q : AV → AH → Prop} (L : Lead P p m m') (e : EndsQ P p m' Q) : EndsQ P p m Q := by
  obtain ⟨v, h, q, e⟩ := e
  exact ⟨v, h, q, ReachL.before (lf := .done v h) L e⟩
def EndLf (P : Program) (p : Nat) (Q : AV → AH → Prop) : Lf → Prop
  | .to m => EndsQ P p m Q
  | .done v h => Q v h
  | .bad _ => False
theorem ends_of_sym {U : USum} (G : GoodU P U) {y : Hy} {n : Nat} {m : AM} {Q : AV → AH → Prop} (h : (symT P U y n m).Wp (EndLf P y.pn Q)) : EndsQ P y.pn m Q := by
  obtain ⟨lf, h1, h2⟩ := T.wp_sel h
  have := symT_ok G h1
  cases lf with
  | to m' => exact EndsQ.lead this h2
  | done v h' => exact ⟨v, h', h2, this⟩
  | bad k => exact h2.elim
theorem ends_of_tree {U : USum} (G : GoodU P U) {y : Hy} {n : Nat} {m : AM} {Q : AV → AH → Prop} {t : T Lf} (ht : symT P U y n m = t) (h : t.Wp (EndLf P y.pn Q)) : EndsQ P y.pn m Q := ends_of_sym G (by rw [ht]; exact h)
end
end Go.EV
