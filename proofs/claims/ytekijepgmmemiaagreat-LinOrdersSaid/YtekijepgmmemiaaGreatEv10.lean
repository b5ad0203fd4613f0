/- Own text of this claim: an abstract machine over the given program form, and what follows from it. No condition. -/
import Derived.Test.YtekijepgmmemiaaGreatEvC
set_option linter.unusedVariables false
set_option linter.unusedSimpArgs false
set_option maxHeartbeats 1000000
namespace Go.EV
section
variable {P : Program}

/-! ### one step of the machine, whatever frame stands on top -/
theorem exec_step {f f' : Frame} {cs cs' : List Frame} {w w' : World} (hm : f.mode = .run)
    (h : (stepG.exec P true true f cs none w).bare = .go { frame := f', callers := cs', status := .running, dying := none } w') :
    step P (lone f cs w) = .next (lone f' cs' w') := by
  refine step_lone_go ?_
  obtain ⟨fn, tmps, todo, defers, mode, kind, round⟩ := f
  simp only at hm; subst hm
  simpa [stepG] using h

theorem exec_to {f : Frame} {cs : List Frame} {w : World} (hm : f.mode = .run) {k : List Item}
    (h : stepG.exec P true true f cs none w = .go { frame := { f with todo := k }, callers := cs, status := .running, dying := none } w) :
    step P (lone f cs w) = .next (lone { f with todo := k } cs w) := exec_step hm (by rw [h]; rfl)

theorem oper_apply {f : Frame} {cs : List Frame} {w : World} {o : Oper} (ho : f.oper? = some o) (hd : ∀ c, o.op ≠ .defer c) :
    stepG.oper P true f cs none w = stepG.apply P true f cs none (execOp f.eval o) w := by
  unfold stepG.oper
  rw [ho]
  simp only
  split
  · rename_i l c hl hc
    exact absurd hc (hd c)
  · rfl

theorem not_defer {f : Frame} {o : Oper} {w w' : World} {nx : Next} (h : (execOp f.eval o).run P w = .ok nx w') (hn : ∀ d, nx ≠ .defer d) : ∀ c, o.op ≠ .defer c := by
  intro c hc
  unfold execOp at h
  rw [hc] at h
  simp only [Sem.run_bind] at h
  cases hr : (resolve f.eval c o.type).run P w with
  | ok d w1 =>
    rw [hr] at h
    simp only [Result.andThen_ok, Sem.run_pure, Result.ok.injEq] at h
    exact hn _ h.1.symm
  | halt e w1 =>
    rw [hr] at h
    simp [Result.andThen] at h

theorem oper_step {f : Frame} {cs : List Frame} {w : World} (hm : f.mode = .run) {ops : Array Oper} {i : Nat} {l : List Nat} {k : List Item} (ht : f.todo = .inRegion ops (i :: l) :: k)
    {o : Oper} (ho : ops[i]? = some o) (hw : Region.wanted o (yielded ops f.tmps) = true) {c : Value} {nx : Next} {w' : World} (hrun : (execOp f.eval o).run P w = .ok nx w') (hnx : nx = .value c ∨ (nx = .skip ∧ c = undef)) :
    step P (lone f cs w) = .next (lone (f.finish c) cs w') := by
  refine exec_step hm ?_
  unfold stepG.exec
  rw [ht]
  simp only [ho, Option.map_some, hw, Option.getD_some, if_true]
  rw [oper_apply (o := o) (by unfold Frame.oper?; rw [ht]; exact ho) (not_defer hrun (by rcases hnx with rfl | ⟨rfl, _⟩ <;> (intro d h; cases h)))]
  rcases hnx with rfl | ⟨rfl, rfl⟩
  · simp [stepG.apply, hrun]
  · simp [stepG.apply, hrun]

theorem call_step {f : Frame} {cs : List Frame} {w : World} (hm : f.mode = .run) {ops : Array Oper} {i : Nat} {l : List Nat} {k : List Item} (ht : f.todo = .inRegion ops (i :: l) :: k)
    {o : Oper} (ho : ops[i]? = some o) (hw : Region.wanted o (yielded ops f.tmps) = true) {g : FuncId} {args : Array Value} {w' : World} (hrun : (execOp f.eval o).run P w = .ok (.enter g args) w') :
    step P (lone f cs w) = .next (lone (Frame.enter P g args .normal) (f :: cs) w') := by
  refine exec_step hm ?_
  unfold stepG.exec
  rw [ht]
  simp only [ho, Option.map_some, hw, Option.getD_some, if_true]
  rw [oper_apply (o := o) (by unfold Frame.oper?; rw [ht]; exact ho) (not_defer hrun (by intro d h; cases h))]
  simp [stepG.apply, hrun, ht]

theorem round_step {f : Frame} {cs : List Frame} {w : World} (hm : f.mode = .run) {ops : Array Oper} {i : Nat} {l : List Nat} {k : List Item} (ht : f.todo = .inRegion ops (i :: l) :: k)
    {o : Oper} (ho : ops[i]? = some o) (hw : Region.wanted o (yielded ops f.tmps) = true) {b : Nat} {g : FuncId} {ts : Array Value} {a c : Code} {w' : World} (hrun : (execOp f.eval o).run P w = .ok (.round b g ts a c) w') :
    step P (lone f cs w) = .next (lone (Frame.round b g ts a c .normal) (f :: cs) w') := by
  refine exec_step hm ?_
  unfold stepG.exec
  rw [ht]
  simp only [ho, Option.map_some, hw, Option.getD_some, if_true]
  rw [oper_apply (o := o) (by unfold Frame.oper?; rw [ht]; exact ho) (not_defer hrun (by intro d h; cases h))]
  simp [stepG.apply, hrun, ht]

theorem skip_step {f : Frame} {cs : List Frame} {w : World} (hm : f.mode = .run) {ops : Array Oper} {i : Nat} {l : List Nat} {k : List Item} (ht : f.todo = .inRegion ops (i :: l) :: k)
    {o : Oper} (ho : ops[i]? = some o) (hw : Region.wanted o (yielded ops f.tmps) = false) :
    step P (lone f cs w) = .next (lone (f.finish undef) cs w) := by
  refine exec_step hm ?_
  unfold stepG.exec
  rw [ht]
  simp only [ho, Option.map_some, hw, Option.getD_some, Bool.false_eq_true, if_false]
  rfl

theorem ret_step {f : Frame} {cs : List Frame} {w : World} (hm : f.mode = .run) (hr : f.roundOf = none) {k : List Item} (ht : f.todo = [] ∨ f.todo = .code .ret :: k) :
    step P (lone f cs w) = .next (lone { f with mode := .returning } cs w) := by
  refine exec_step hm ?_
  unfold stepG.exec
  rcases ht with ht | ht <;> rw [ht] <;> simp [hr] <;> rfl

/-! ### frames -/
def IR (ρ : Rho) : AItem → Item → Prop
  | .code c, .code d => d = c
  | .inBlock i, .inBlock j => j = i
  | .inLoop c, .inLoop d => d = c
  | .inScope c, .inScope d => d = c
  | .reg ops rest, .inRegion ops' l => ops' = ops ∧ ∃ i n, i + n = ops.size ∧ rest = ops.toList.drop i ∧ l = List.range' i n
  | .inRF b, .inRangeFunc l => ∃ cb, ρ b = some cb ∧ l = cb.blk
  | .endRF b, .endRangeFunc l => ∃ cb, ρ b = some cb ∧ l = cb.blk
  | .begin, .beginRound => True
  | _, _ => False

theorem IR.ext {ρ ρ' : Rho} (h : Ext ρ ρ') : ∀ (a : AItem) (b : Item), IR ρ a b → IR ρ' a b := by
  intro a b
  cases a <;> cases b <;> simp only [IR] <;> first
    | exact fun h => h
    | exact fun ⟨cb, h1, h2⟩ => ⟨cb, h _ _ h1, h2⟩

/-- the loops over functions that a frame has entered -/
def MarksR (ρ : Rho) : List Nat → List Deferred → Prop
  | [], ds => ds = []
  | b :: bs, ds => ∃ cb r, ρ b = some cb ∧ ds = { target := .collected cb.blk, args := #[] } :: r ∧ MarksR ρ bs r

theorem MarksR.ext {ρ ρ' : Rho} (h : Ext ρ ρ') : ∀ {bs : List Nat} {ds : List Deferred}, MarksR ρ bs ds → MarksR ρ' bs ds
  | [], _, e => e
  | _ :: _, _, ⟨cb, r, h1, h2, h3⟩ => ⟨cb, r, h _ _ h1, h2, h3.ext h⟩

def RoundR (ρ : Rho) : Option Nat → Option Nat → Prop
  | none, r => r = none
  | some b, r => ∃ cb, ρ b = some cb ∧ r = some cb.blk

theorem RoundR.ext {ρ ρ' : Rho} (h : Ext ρ ρ') : ∀ {b r : Option Nat}, RoundR ρ b r → RoundR ρ' b r
  | none, _, e => e
  | some _, _, ⟨cb, h1, h2⟩ => ⟨cb, h _ _ h1, h2⟩

theorem All2.mono {α β : Type} {R S : α → β → Prop} (h : ∀ a b, R a b → S a b) : ∀ {l : List α} {r : List β}, All2 R l r → All2 S l r
  | _, _, .nil => .nil
  | _, _, .cons hab t => .cons (h _ _ hab) (All2.mono h t)

structure FRp (ρ : Rho) (a : AFr) (f : Frame) : Prop where
  fn : f.fn = a.fn
  mode : f.mode = .run
  kind : f.kind = .normal
  defers : MarksR ρ a.ctl.marks f.defers
  round : RoundR ρ a.ctl.rnd f.roundOf
  size : f.tmps.size = a.n
  tmps : ∀ t v, a.tmps.get t = some v → ∃ c, f.tmps[t]? = some c ∧ VR ρ v c
  todo : All2 (IR ρ) a.todo f.todo

theorem FRp.ext {ρ ρ' : Rho} (h : Ext ρ ρ') {a : AFr} {f : Frame} (H : FRp ρ a f) : FRp ρ' a f :=
  ⟨H.fn, H.mode, H.kind, H.defers.ext h, H.round.ext h, H.size, fun t v ht => by obtain ⟨c, h1, h2⟩ := H.tmps t v ht; exact ⟨c, h1, h2.ext h⟩, H.todo.mono (IR.ext h)⟩

theorem FRp.eval {ρ : Rho} {a : AFr} {f : Frame} (H : FRp ρ a f) : EvR ρ (ev a.tmps) f.eval := by
  intro o v h
  cases o with
  | tmp t =>
    simp only [ev, evF] at h
    obtain ⟨c, h1, h2⟩ := H.tmps t v h
    simp only [Frame.eval]
    rw [show f.tmps.getD t undef = c by simp [h1]]
    exact h2
  | const x => simp only [ev, evF] at h; exact ofValue_rel h
  | global g => simp [ev, evF] at h
  | func g => simp [ev, evF] at h; subst h; simp only [Frame.eval, VR]; exact ⟨_, _, rfl, by simp [VRs], by simp [VRs]⟩

def bot : AFr → List AFr → FuncId
  | t, [] => t.fn
  | _, c :: cs => bot c cs

theorem bot_fn {t t' : AFr} (h : t.fn = t'.fn) : ∀ l, bot t l = bot t' l
  | [] => h
  | _ :: _ => rfl

/-- a frame in a region that draws its order -/
def FRd (P : Program) (ρ : Rho) (lo hi : Nat) (a : AFr) (f : Frame) : Prop :=
  f.fn = a.fn ∧ f.mode = .run ∧ f.kind = .normal ∧ MarksR ρ a.ctl.marks f.defers ∧ RoundR ρ a.ctl.rnd f.roundOf ∧ f.tmps.size = a.n ∧
  ∃ ops all done floats rest wait k kc L, a.todo = .dreg ops all done floats rest wait :: k ∧ f.todo = .inRegion ops L :: kc ∧ All2 (IR ρ) k kc ∧
    DI P ρ lo hi ops all done floats a.tmps.get f.tmps L ∧ (∀ x ∈ rest, all[x.i]? = some x) ∧
    match wait with
    | none => True
    | some x => ∃ L', L = x.i :: L' ∧ all[x.i]? = some x ∧ done.testBit x.i = false ∧ allBits done (edgesOf x.o) = true

def FR (P : Program) (ρ : Rho) (lo hi : Nat) (a : AFr) (f : Frame) : Prop := FRp ρ a f ∨ FRd P ρ lo hi a f

theorem FR.ext {P : Program} {ρ ρ' : Rho} {lo hi lo' hi' : Nat} (h : Ext ρ ρ') (hr : ∀ b, lo ≤ b → b < hi → ρ' b = ρ b) (hl : lo' ≤ lo) (hh : hi ≤ hi') {a : AFr} {f : Frame} (H : FR P ρ lo hi a f) : FR P ρ' lo' hi' a f := by
  rcases H with H | ⟨h1, h2, h3, h4, h5, h6, ops, all, done, floats, rest, wait, k, kc, L, g1, g2, g3, g4, g5⟩
  · exact .inl (H.ext h)
  · exact .inr ⟨h1, h2, h3, h4.ext h, h5.ext h, h6, ops, all, done, floats, rest, wait, k, kc, L, g1, g2, g3.mono (IR.ext h), g4.mono h hr hl hh, g5⟩

/-- the frames below; what each of them has made, and the machine below has not come to, is from n0 on, and below B -/
def SR (P : Program) (ρ : Rho) (n0 : Nat) : Nat → List AFr → List Frame → Prop
  | B, [], l => l = [] ∧ n0 ≤ B
  | B, a :: as, l => ∃ f fs B', l = f :: fs ∧ B' ≤ B ∧ FR P ρ B' B a f ∧ SR P ρ n0 B' as fs

theorem SR.le {P : Program} {ρ : Rho} {n0 : Nat} : ∀ {as : List AFr} {l : List Frame} {B : Nat}, SR P ρ n0 B as l → n0 ≤ B
  | [], _, _, H => H.2
  | a :: as, _, B, H => by
    simp only [SR] at H
    obtain ⟨f, fs, B', h1, h2, h3, h4⟩ := H
    exact Nat.le_trans (SR.le h4) h2

theorem SR.ext {P : Program} {ρ ρ' : Rho} {n0 : Nat} (h : Ext ρ ρ') : ∀ {as : List AFr} {l : List Frame} {B : Nat}, (∀ b, b < B → ρ' b = ρ b) → SR P ρ n0 B as l → SR P ρ' n0 B as l
  | [], _, _, _, H => H
  | a :: as, _, B, hr, H => by
    simp only [SR] at H ⊢
    obtain ⟨f, fs, B', h1, h2, h3, h4⟩ := H
    exact ⟨f, fs, B', h1, h2, h3.ext h (fun b _ hb => hr b hb) (Nat.le_refl _) (Nat.le_refl _), SR.ext h (fun b hb => hr b (by omega)) h4⟩

/-- what the top frame has found is still so -/
def TopOk (P : Program) (h : AH) (a : AFr) : Prop := ∀ ops all done floats rest wait k, a.todo = .dreg ops all done floats rest wait :: k → wait = none ∧ ∀ p ∈ floats, FlOk P h p.2

structure MR (P : Program) (N : Nat) (own : Own) (w0 : World) (cs0 : List Frame) (f0 : FuncId) (ρ0 : Rho) (n0 : Nat) (m : AM) (fr : Frame) (cs : List Frame) (w : World) : Prop where
  ex : ∃ ρ cfs B, B ≤ m.heap.next ∧ HRel ρ m.heap w ∧ FR P ρ B m.heap.next m.top fr ∧ SR P ρ n0 B m.below cfs ∧ cs = cfs ++ cs0 ∧ Owned N own ρ ∧ Ext2 n0 ρ0 ρ
  top : TopOk P m.heap m.top
  keep : Keep N own w0 w
  size : N ≤ w.heap.size
  bot : EV.bot m.top m.below = f0

theorem Ext2.then {n : Nat} {a b c : Rho} (h : Ext2 n a b) (g : Ext b c) (hr : ∀ x, x < n → c x = b x) : Ext2 n a c := ⟨h.1.trans g, fun x hx => (hr x hx).trans (h.2 x hx)⟩

theorem All2.get {α β : Type} {R : α → β → Prop} {a : α} {l : List α} {r : List β} (h : All2 R (a :: l) r) : ∃ b r', r = b :: r' ∧ R a b ∧ All2 R l r' := by
  cases h with
  | cons h1 h2 => exact ⟨_, _, rfl, h1, h2⟩

theorem exitTo_rel {ρ : Rho} (id : Nat) : ∀ {k : List AItem} {l : List Item} {k' : List AItem}, All2 (IR ρ) k l → exitToA id k = some k' → ∃ l', exitTo id l = some l' ∧ All2 (IR ρ) k' l'
  | [], l, k', h, e => by simp [exitToA] at e
  | x :: k, l, k', h, e => by
    obtain ⟨y, r, rfl, hxy, hr⟩ := h.get
    cases x with
    | inBlock i =>
      cases y with
      | inBlock j =>
        simp only [IR] at hxy; subst hxy
        simp only [exitToA] at e
        split at e
        · rename_i hid
          rw [Tr.beq_true] at hid; subst hid
          simp at e; subst e
          exact ⟨r, by simp [exitTo], hr⟩
        · rename_i hid
          have hne : (j == id) = false := by
            simp only [beq_eq_false_iff_ne, ne_eq]; intro hh; subst hh; rw [Nat.beq_refl] at hid; cases hid
          obtain ⟨l', h1, h2⟩ := exitTo_rel id hr e
          exact ⟨l', by simp only [exitTo, hne, Bool.false_eq_true, if_false]; exact h1, h2⟩
      | _ => simp only [IR] at hxy
    | _ => cases y <;> simp only [IR] at hxy <;> (simp only [exitToA] at e; simp only [exitTo]; exact exitTo_rel id hr e)

theorem gotoIn_rel {ρ : Rho} (id : Nat) : ∀ {k : List AItem} {l : List Item} {k' : List AItem}, All2 (IR ρ) k l → gotoInA id k = some k' → ∃ l', gotoIn id l = some l' ∧ All2 (IR ρ) k' l'
  | [], l, k', h, e => by simp [gotoInA] at e
  | x :: k, l, k', h, e => by
    obtain ⟨y, r, rfl, hxy, hr⟩ := h.get
    cases x with
    | inScope i =>
      cases y with
      | inScope j =>
        simp only [IR] at hxy; subst hxy
        simp only [gotoInA] at e
        split at e
        · rename_i rest hf
          simp at e; subst e
          exact ⟨.code rest :: .inScope j :: r, by simp only [gotoIn, hf], .cons (by simp [IR]) (.cons (by simp [IR]) hr)⟩
        · rename_i hf
          obtain ⟨l', h1, h2⟩ := gotoIn_rel id hr e
          exact ⟨l', by simp only [gotoIn, hf]; exact h1, h2⟩
      | _ => simp only [IR] at hxy
    | _ => cases y <;> simp only [IR] at hxy <;> (simp only [gotoInA] at e; simp only [gotoIn]; exact gotoIn_rel id hr e)

/-- a frame that has an operation's value -/
theorem finish_frame {f : Frame} {ops : Array Oper} {i : Nat} {l : List Nat} {k : List Item} (ht : f.todo = .inRegion ops (i :: l) :: k) {o : Oper} (ho : ops[i]? = some o) (c : Value) :
    f.finish c = { f with tmps := (match o.dst with | some d => f.tmps.setIfInBounds d c | none => f.tmps), todo := .inRegion ops l :: k } := by
  unfold Frame.finish
  rw [ht]
  simp only [ho, Option.bind_some]
  cases o.dst <;> rfl

theorem blt_true {a b : Nat} (h : Nat.blt a b = true) : a < b := Nat.le_of_ble_eq_true h

theorem setDst_rel {ρ : Rho} {n : Nat} {fr ts : Tr AV} {tmps : Array Value} (hs : tmps.size = n) (ht : ∀ t v, fr.get t = some v → ∃ c, tmps[t]? = some c ∧ VR ρ v c) {dst : Option Tmp} {v : AV} {c : Value} (hv : VR ρ v c)
    (h : setDst n fr dst v = some ts) : (match dst with | some d => tmps.setIfInBounds d c | none => tmps).size = n ∧ ∀ t v, ts.get t = some v → ∃ c', (match dst with | some d => tmps.setIfInBounds d c | none => tmps)[t]? = some c' ∧ VR ρ v c' := by
  cases dst with
  | none => simp [setDst] at h; subst h; exact ⟨hs, ht⟩
  | some d =>
    simp only [setDst] at h
    split at h
    · rename_i hd
      simp at h; subst h
      have hd' : d < n := blt_true hd
      refine ⟨by simpa using hs, fun t u hu => ?_⟩
      rw [Tr.get_set] at hu
      by_cases e : t = d
      · subst e
        rw [if_pos rfl] at hu; cases hu
        exact ⟨c, by
          have hlt : t < tmps.size := hs ▸ hd'
          show (tmps.setIfInBounds t c)[t]? = some c
          rw [Array.getElem?_setIfInBounds_self_of_lt hlt], hv⟩
      · rw [if_neg e] at hu
        obtain ⟨c', h1, h2⟩ := ht t u hu
        exact ⟨c', by show (tmps.setIfInBounds d c)[t]? = some c'; rw [Array.getElem?_setIfInBounds_ne (fun q => e q.symm)]; exact h1, h2⟩
    · simp at h

/-- the step behind an operation -/
theorem FRp.finish {ρ : Rho} {a : AFr} {f : Frame} (H : FRp ρ a f) {ops : Array Oper} {o : Oper} {rest : List Oper} {k : List AItem} (hta : a.todo = .reg ops (o :: rest) :: k)
    {v : AV} {c : Value} (hv : VR ρ v c) {ts : Tr AV} (hs : setDst a.n a.tmps o.dst v = some ts) :
    ∃ i l kc, f.todo = .inRegion ops (i :: l) :: kc ∧ ops[i]? = some o ∧ FRp ρ ⟨a.fn, a.ctl, a.n, ts, .reg ops rest :: k⟩ (f.finish c) := by
  have htd := H.todo
  rw [hta] at htd
  obtain ⟨y, r, hft, hxy, hr⟩ := htd.get
  cases y <;> simp only [IR] at hxy
  rename_i ops' l
  obtain ⟨rfl, i, n, hin, hrest, rfl⟩ := hxy
  have hlt : i < ops'.size := by
    rcases Nat.lt_or_ge i ops'.size with h1 | h1
    · exact h1
    · rw [List.drop_eq_nil_of_le (by simpa using h1)] at hrest; cases hrest
  obtain ⟨n, rfl⟩ : ∃ m, n = m + 1 := ⟨n - 1, by omega⟩
  have hdrop := List.drop_eq_getElem_cons (l := ops'.toList) (i := i) (by simpa using hlt)
  rw [hdrop] at hrest
  injection hrest with h1 h2
  have ho : ops'[i]? = some o := by
    rw [Array.getElem?_eq_getElem hlt, h1]; simp
  refine ⟨i, List.range' (i + 1) n, r, by rw [hft, List.range'_succ], ho, ?_⟩
  rw [List.range'_succ] at hft
  rw [finish_frame hft ho]
  obtain ⟨g1, g2⟩ := setDst_rel H.size H.tmps hv hs
  exact ⟨H.fn, H.mode, H.kind, H.defers, H.round, g1, g2, .cons ⟨rfl, i + 1, n, by omega, h2, rfl⟩ hr⟩

theorem guard_rel {ρ : Rho} {a : AFr} {f : Frame} (H : FRp ρ a f) {ops : Array Oper} {o : Oper} {b : Bool} (h : guardOk ops a.tmps o = some b) : Region.wanted o (yielded ops f.tmps) = b := by
  unfold guardOk guardF at h
  unfold Region.wanted
  split at h
  · rename_i hg; simp at h; subst h; rw [hg]
  · rename_i j want hg
    rw [hg]
    simp only
    split at h
    · rename_i oj hoj
      split at h
      · rename_i d hd
        split at h
        · rename_i b' hb
          simp at h; subst h
          obtain ⟨c, h1, h2⟩ := H.tmps d _ hb
          rw [VR_bool h2] at h1
          simp [yielded, hoj, hd, h1]
        · rename_i b' hb
          simp at h; subst h
          obtain ⟨c, h1, h2⟩ := H.tmps d _ hb
          simp only [VR] at h2
          obtain ⟨as, rfl, _⟩ := h2
          simp [yielded, hoj, hd, h1]
        · simp at h
      · simp at h
    · simp at h

/-! ### calls -/
theorem enter_rel {ρ : Rho} {g : FuncId} {args : List AV} {a : AFr} (h : enterA P g args = some a) {cargs : List Value} (hv : VRs ρ args cargs) :
    FRp ρ a (Frame.enter P g cargs.toArray .normal) ∧ a.fn = g ∧ ∃ fn, P.funcs[g]? = some fn ∧ fn.body.isSome = true := by
  unfold enterA at h
  split at h
  · rename_i fn hfn
    split at h
    · rename_i c hc
      split at h
      · rename_i hle
        simp at h; subst h
        simp only [Nat.ble_eq] at hle
        have hl := VRs.length hv
        refine ⟨⟨rfl, rfl, rfl, rfl, rfl, ?_, ?_, ?_⟩, rfl, fn, hfn, by simp [hc]⟩
        · simp [Frame.enter, hfn]; omega
        · intro t v ht
          rw [Tr.get_setL] at ht
          split at ht
          · rename_i hlt
            obtain ⟨c', h1, h2⟩ := VRs.get hv (i := t) (by simpa using ht)
            have hlt' : t < cargs.length := (List.getElem?_eq_some_iff.mp h1).1
            refine ⟨c', ?_, h2⟩
            simp only [Frame.enter]
            rw [Array.getElem?_append_left (by simpa using hlt')]
            simpa using h1
          · simp [Tr.get] at ht
        · simp only [Frame.enter, hfn, hc, Option.bind_some, Option.getD_some]
          exact .cons (by simp [IR]) .nil
      · simp at h
    · simp at h
  · simp at h

theorem callee_rel {ρ : Rho} {f : Operand → Option AV} {e : Operand → Value} (hf : EvR ρ f e) {c : Call} {g : FuncId} {args : List AV} (h : calleeA f c = some (g, args)) {o : Oper} (ho : o.op = .call c) (w : World)
    (hb : ∃ fn, P.funcs[g]? = some fn ∧ fn.body.isSome = true) (hN : ∀ (g : Nat) (fn : Func), P.funcs[g]? = some fn → (fn.name == "runtime.NumGoroutine") = false) :
    ∃ cargs, (execOp e o).run P w = .ok (.enter g cargs.toArray) w ∧ VRs ρ args cargs := by
  unfold calleeA at h
  split at h
  · rename_i fo hco
    split at h
    · rename_i g' first cap as hfo has
      simp at h; obtain ⟨rfl, rfl⟩ := h
      have hr := hf _ _ hfo
      simp only [VR] at hr
      obtain ⟨cf, cc, he, h1, h2⟩ := hr
      have h3 := allOf_rel (e := e) (fun o v => hf o v) has
      obtain ⟨fn, hfn, hbody⟩ := hb
      have hname := hN _ _ hfn
      have hbn : fn.body.isNone = false := by cases hh : fn.body <;> simp [hh] at hbody ⊢
      refine ⟨cf.toList ++ ((c.args.toList.map e) ++ cc.toList), ?_, VRs.append h1 (VRs.append h3 h2)⟩
      simp only [execOp, ho, resolve, hco, he, Deferred.ofValue, Sem.run_bind, Sem.run_pure, Result.andThen_ok, invoke, callFunc, run_program, hfn, hname, Bool.false_eq_true, if_false, hbn]
      congr 2
      apply Array.ext'; simp
    · simp at h
  · simp at h
end
end Go.EV
