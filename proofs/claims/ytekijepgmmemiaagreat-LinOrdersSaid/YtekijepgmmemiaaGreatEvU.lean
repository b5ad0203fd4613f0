/- Own text of this claim: an abstract machine over the given program form, and what follows from it. No condition. -/
import Derived.Test.YtekijepgmmemiaaGreatEvS
set_option linter.unusedVariables false
set_option linter.unusedSimpArgs false
namespace Go.EV
noncomputable section
variable {P : Program} {S : Sum} {p : Nat}

/-- the machine above goes from one state to another, whatever stands below -/
def Lead (P : Program) (p : Nat) (m m' : AM) : Prop :=
  ∀ (N : Nat) (own : Own) (w0 : World) (cs0 : List Frame) (f0 : FuncId) (ρ0 : Rho) (n0 : Nat) (fr : Frame) (cs : List Frame) (w : World), n0 ≤ 8 + p → (∀ b, 8 + p ≤ b → ρ0 b = none) → MR P N own w0 cs0 f0 ρ0 n0 m fr cs w →
    ∃ fr' cs' w', Steps P (lone fr cs w) (lone fr' cs' w') ∧ MR P N own w0 cs0 f0 ρ0 n0 m' fr' cs' w'

theorem Lead.refl (m : AM) : Lead P p m m := fun _ _ _ _ _ _ _ fr cs w _ _ M => ⟨fr, cs, w, Steps.refl _ _, M⟩
theorem Lead.trans {a b c : AM} (h1 : Lead P p a b) (h2 : Lead P p b c) : Lead P p a c := by
  intro N own w0 cs0 f0 ρ0 n0 fr cs w l1 l2 M
  obtain ⟨fr1, cs1, w1, s1, M1⟩ := h1 _ _ _ _ _ _ _ _ _ _ l1 l2 M
  obtain ⟨fr2, cs2, w2, s2, M2⟩ := h2 _ _ _ _ _ _ _ _ _ _ l1 l2 M1
  exact ⟨fr2, cs2, w2, s1.trans s2, M2⟩

theorem logOf_held : ∀ {r : List (Bool × Bool × Bool)}, (∀ e ∈ r, e.1 = true → e.2.1 = e.2.2) → LogOk (logOf r []) := by
  have : ∀ (r : List (Bool × Bool × Bool)) (l : Log), (∀ e ∈ r, e.1 = true → e.2.1 = e.2.2) → LogOk l → LogOk (logOf r l) := by
    intro r
    induction r with
    | nil => intro l _ hl; exact hl
    | cons e r ih =>
      intro l h hl
      obtain ⟨a, c, b⟩ := e
      cases a
      · exact ih l (fun e he => h e (by simp [he])) hl
      · refine ih ((c, b) :: l) (fun e he => h e (by simp [he])) (fun e he => ?_)
        simp only [List.mem_cons] at he
        rcases he with rfl | he
        · exact h (true, c, b) (by simp) rfl
        · exact hl e he
  exact fun {r} h => this r [] h (fun e he => by cases he)
/-- n steps -/
def runN (P : Program) (S : TSum) (n : Nat) : AM → ARes := Nat.rec (motive := fun _ => AM → ARes) .run (fun _ ih m => run2 ih (stepX P S m)) n
theorem runN_reach {T : TSum} : ∀ (n : Nat) (m : AM), Reach P (cutT T) m (runN P T n m)
  | 0, m => fun _ => .refl m
  | n + 1, m => by
    have h1 := stepX_reach (P := P) (U := T) m
    show Reach P (cutT T) m (run2 (runN P T n) (stepX P T m))
    revert h1
    cases stepX P T m with
    | run m' =>
      intro h1
      have h2 := runN_reach (T := T) n m'
      show Reach P (cutT T) m (runN P T n m')
      have h3 := h2.log
      revert h2 h3
      cases runN P T n m' with
      | run m2 => exact fun h2 h3 hl => (h1 fun e he => hl e (h3 hl e he)).trans (h2 hl)
      | done v h l =>
        intro h2 h3 hl
        obtain ⟨m1, s, e⟩ := h2 hl
        exact ⟨m1, (h1 fun e he => hl e (h3 hl e he)).trans s, e⟩
      | bad n => exact fun _ _ => trivial
    | done v h l => exact fun h1 => h1
    | bad n => exact fun h1 => h1

theorem lead_run {T : TSum} (G : Good P (cutT T)) {k : Nat} {m m' : AM} (hr : runN P T k m = .run m') (hl : LogOk m'.log) : Lead P p m m' := by
  intro N own w0 cs0 f0 ρ0 n0 fr cs w l1 l2 M
  have h := reach_goes G.sum G.body G.num G.mix (runN_reach k m) M
  rw [hr] at h
  exact h hl

/-- other hints, another log -/
theorem lead_log (top : AFr) (below : List AFr) (h : AH) (hs hs' : HB) (l l' : Log) : Lead P p ⟨top, below, h, hs, l⟩ ⟨top, below, h, hs', l'⟩ :=
  fun N own w0 cs0 f0 ρ0 n0 fr cs w _ _ M => ⟨fr, cs, w, Steps.refl _ _, ⟨M.ex, M.top, M.keep, M.size, M.bot⟩⟩

def isDreg : List AItem → Bool
  | .dreg _ _ _ _ _ _ :: _ => true
  | _ => false

/-- slots that are forgotten -/
theorem lead_slots {top : AFr} {ts : Tr AV} (below : List AFr) (h : AH) (hs : HB) (l : Log) (hd : isDreg top.todo = false) (ht : ∀ i v, ts.get i = some v → top.tmps.get i = some v) :
    Lead P p ⟨top, below, h, hs, l⟩ ⟨⟨top.fn, top.ctl, top.n, ts, top.todo⟩, below, h, hs, l⟩ := by
  intro N own w0 cs0 f0 ρ0 n0 fr cs w l1 l2 M
  obtain ⟨ρ, cfs, B, hB, H, F, SS, hcs, O, X⟩ := M.ex
  have F : FRp ρ top fr := plain_frame F (fun ops all done floats rest wait k e => by rw [e] at hd; cases hd)
  have F' : FRp ρ ⟨top.fn, top.ctl, top.n, ts, top.todo⟩ fr := ⟨F.fn, F.mode, F.kind, F.defers, F.round, F.size, fun i v hv => F.tmps i v (ht i v hv), F.todo⟩
  refine ⟨fr, cs, w, Steps.refl _ _, ⟨⟨ρ, cfs, B, hB, H, .inl F', SS, hcs, O, X⟩, topok_plain F' _, M.keep, M.size, ?_⟩⟩
  rw [← M.bot]
  exact bot_fn (t := (⟨top.fn, top.ctl, top.n, ts, top.todo⟩ : AFr)) (t' := top) rfl below

/-- some slots of a frame -/
def keepT (ts : Tr AV) (slots : List Nat) : Tr AV :=
  List.rec (motive := fun _ => Tr AV) .nil (fun s _ ih => oCase ih (fun v => (Tr.set v ih s).force id) (ts.get s)) slots
theorem keepT_get (ts : Tr AV) : ∀ (slots : List Nat) (i : Nat) (v : AV), (keepT ts slots).get i = some v → ts.get i = some v
  | [], i, v, h => by cases h
  | s :: r, i, v, h => by
    have h : (oCase (keepT ts r) (fun v => (Tr.set v (keepT ts r) s).force id) (ts.get s)).get i = some v := h
    cases hs : ts.get s with
    | none => rw [hs] at h; exact keepT_get ts r i v h
    | some u =>
      rw [hs] at h
      have h2 : ((Tr.set u (keepT ts r) s).force id).get i = some v := h
      rw [Tr.force_eq] at h2
      have h3 : (Tr.set u (keepT ts r) s).get i = some v := h2
      rw [Tr.get_set] at h3
      split at h3
      · rename_i e; subst e; rw [hs]; exact h3
      · exact keepT_get ts r i v h3

/-- a state of which only some slots of the frame above are kept -/
def cutM (slots : List Nat) (m : AM) : AM := ⟨⟨m.top.fn, m.top.ctl, m.top.n, keepT m.top.tmps slots, m.top.todo⟩, m.below, m.heap, ⟨noHint, noSure⟩, []⟩

/-- a piece of a run: where it ends, with some slots, and what was told -/
def segT (P : Program) (T : TSum) (k : Nat) (m : AM) (slots : List Nat) : Option (AM × Log) :=
  match runN P T k m with
  | .run m' => match isDreg m'.top.todo with
    | false => some (cutM slots m', m'.log)
    | true => none
  | _ => none

def segX (P : Program) (S : Sum) : Nat → AM → List Nat → Option (AM × Log) := segT P (toT S)

/-- a state with hints -/
def withH (hs : HB) (m : AM) : AM := ⟨m.top, m.below, m.heap, hs, []⟩

theorem lead_segT {T : TSum} (G : Good P (cutT T)) {k : Nat} {m m' : AM} {hs : HB} {slots : List Nat} {l : Log} (hr : segT P T k (withH hs m) slots = some (m', l)) (hl : LogOk l) : Lead P p m m' := by
  unfold segT at hr
  split at hr
  · rename_i m2 h2
    split at hr
    · rename_i hd
      simp only [Option.some.injEq, Prod.mk.injEq] at hr
      obtain ⟨rfl, rfl⟩ := hr
      have h1 : Lead P p m (withH hs m) := lead_log m.top m.below m.heap m.hints hs m.log []
      refine h1.trans ((lead_run G h2 hl).trans ?_)
      have h3 : Lead P p m2 ⟨⟨m2.top.fn, m2.top.ctl, m2.top.n, keepT m2.top.tmps slots, m2.top.todo⟩, m2.below, m2.heap, m2.hints, m2.log⟩ := lead_slots (top := m2.top) m2.below m2.heap m2.hints m2.log hd (keepT_get _ slots)
      exact h3.trans (lead_log _ _ _ _ _ _ _)
    · cases hr
  · cases hr

theorem lead_seg (G : Good P S) {k : Nat} {m m' : AM} {hs : HB} {slots : List Nat} {l : Log} (hr : segX P S k (withH hs m) slots = some (m', l)) (hl : LogOk l) : Lead P p m m' :=
  lead_segT (T := toT S) (by rw [cutT_toT]; exact G) hr hl

/-- the last piece of a run -/
def lastX (P : Program) (S : Sum) (k : Nat) (m : AM) : Option (AV × AH × Log) :=
  match runX P (toT S) k m with
  | .done v h l => some (v, h, l)
  | _ => none

/-- a call: its pieces -/
theorem calls_of_lead {S : Sum} (G : Good P S) {f : FuncId} {args : List AV} {h0 : AH} {hs0 : Hints} {m m1 : AM} (hst : startA P f args h0 hs0 = some m) (hL : Lead P p m m1) {k : Nat} {hs : HB} {v : AV} {h : AH} {l : Log} (hr : lastX P S k (withH hs m1) = some (v, h, l)) (hl : LogOk l) (h8 : h0.next ≤ 8 + p)
    (N : Nat) (own : Own) (ρ : Rho) (w : World) (cargs : List Value) (H : HRel ρ h0 w) (hv : VRs ρ args cargs) (O : Owned N own ρ) (hN : N ≤ w.heap.size) :
    Calls P f cargs.toArray w fun e w' => ∃ ρ' c, e = .returned c ∧ VR ρ' v c ∧ HRel ρ' h w' ∧ Keep N own w w' ∧ Owned N own ρ' ∧ Ext2 h0.next ρ ρ' := by
  intro cs
  unfold startA at hst
  split at hst
  · rename_i a ha
    simp at hst; subst hst
    obtain ⟨F, hfn, _⟩ := enter_rel ha hv
    have M : MR P N own w cs f ρ h0.next ⟨a, [], h0, ⟨hs0, noSure⟩, []⟩ (Frame.enter P f cargs.toArray .normal) cs w :=
      ⟨⟨ρ, [], h0.next, Nat.le_refl _, H, .inl F, ⟨rfl, Nat.le_refl _⟩, rfl, O, Ext2.refl _ ρ⟩, topok_plain F _, Keep.refl _ _ w, hN, hfn⟩
    obtain ⟨fr1, cs1, w1, s1, M1⟩ := (hL.trans (lead_log m1.top m1.below m1.heap m1.hints hs m1.log [])) _ _ _ _ _ _ _ _ _ _ h8 (fun b hb => H.fresh b (Nat.le_trans h8 hb)) M
    unfold lastX at hr
    split at hr
    · rename_i v' h' l' hrun
      simp only [Option.some.injEq, Prod.mk.injEq] at hr
      obtain ⟨rfl, rfl, rfl⟩ := hr
      have R := runX_reach (P := P) (U := toT S) k ⟨m1.top, m1.below, m1.heap, hs, []⟩
      rw [cutT_toT] at R
      have := reach_goes G.sum G.body G.num G.mix R M1
      have hrun' : runX P (toT S) k ⟨m1.top, m1.below, m1.heap, hs, []⟩ = .done v' h' l' := hrun
      rw [hrun'] at this
      obtain ⟨ρ', c, fr', w', s, hlv, hf, h1, h2, h3, h4, h5⟩ := this hl
      exact ⟨.returned c, w', fr', ⟨ρ', c, rfl, h1, h2, h3, h4, h5⟩, s1.trans s, hf, hlv⟩
    · cases hr
  · cases hst

/-- a state's slots, as they are kept -/
def setT (l : List (Nat × AV)) : Tr AV := List.rec (motive := fun _ => Tr AV) .nil (fun p _ ih => Prod.rec (motive := fun _ => Tr AV) (fun s v => (Tr.set v ih s).force id) p) l
/-- what is to be done, behind n steps from a state -/
def todoAt (P : Program) (S : Sum) (n : Nat) (m : Option AM) : List AItem :=
  oCase [] (fun m => ARes.rec (motive := fun _ => List AItem) (fun m => m.top.todo) (fun _ _ _ => []) (fun _ => []) (runN P (toT S) n m)) m

/-- what is read of a call's arguments: rows of cells, the first ones of memory -/
def roHeap (rows : List (Nat × (Nat → AV))) : AH := ⟨go rows 0, 8⟩
where go : List (Nat × (Nat → AV)) → Nat → Tr ABlk
  | [], _ => .nil
  | (n, f) :: r, i => Tr.set (.ro n f) (go r (i + 1)) i

/-- a row that is known by less, or otherwise -/
theorem lead_row {top : AFr} {below : List AFr} {h : AH} {hs : HB} {l : Log} {b n : Nat} {z z' : List AV} {t t' : Tr AV} (hd : isDreg top.todo = false) (hg : h.bs.get b = some (.row n z t))
    (ht : ∀ q v, rowGet n z' t' q = some v → rowGet n z t q = some v) : Lead P p ⟨top, below, h, hs, l⟩ ⟨top, below, ⟨Tr.set (.row n z' t') h.bs b, h.next⟩, hs, l⟩ := by
  intro N own w0 cs0 f0 ρ0 n0 fr cs w l1 l2 M
  obtain ⟨ρ, cfs, B, hB, H, F, SS, hcs, O, X⟩ := M.ex
  have F : FRp ρ top fr := plain_frame F (fun ops all done floats rest wait k e => by rw [e] at hd; cases hd)
  have H' : HRel ρ ⟨Tr.set (.row n z' t') h.bs b, h.next⟩ w := by
    refine ⟨?_, ?_, H.fresh, ?_, H.bound, ?_, H.low, H.frz, ?_⟩
    · intro b2 o hg2 cb hb
      simp only [Tr.get_set] at hg2
      split at hg2
      · subst b2
        cases hg2
        obtain ⟨arr, elem, h1, h2, h3, h4⟩ := H.blk b _ hg cb hb
        exact ⟨arr, elem, h1, h2, h3, fun q v hq => h4 q v (ht q v hq)⟩
      · exact H.blk b2 o hg2 cb hb
    · intro x y cx cy g8 gx gy qx qy hh
      refine H.inj x y cx cy g8 ?_ ?_ qx qy hh
      · simp only [Tr.get_set] at gx
        split at gx
        · subst x; rw [hg]; simp
        · exact gx
      · simp only [Tr.get_set] at gy
        split at gy
        · subst y; rw [hg]; simp
        · exact gy
    · intro x hx
      simp only [Tr.get_set] at hx ⊢
      have hne : x ≠ b := by rintro rfl; rw [H.live x hx] at hg; cases hg
      rw [if_neg hne]
      exact H.live x hx
    · intro x o hx hw
      simp only [Tr.get_set] at hx
      split at hx
      · subst x; exact H.ro b _ hg (by intro n f hh; cases hh)
      · exact H.ro x o hx hw
    · intro x o cx hx g8 hcx
      simp only [Tr.get_set] at hx
      split at hx
      · subst x; exact H.sep b _ cx hg g8 hcx
      · exact H.sep x o cx hx g8 hcx
  exact ⟨fr, cs, w, Steps.refl _ _, ⟨⟨ρ, cfs, B, hB, H', .inl F, SS, hcs, O, X⟩, topok_plain F _, M.keep, M.size, M.bot⟩⟩

/-- a run that comes to an answer -/
def Ends (P : Program) (S : Sum) (m : AM) (v : AV) : Prop := ∃ m1 k hs h l, Lead P 0 m m1 ∧ lastX P S k (withH hs m1) = some (v, h, l) ∧ LogOk l
theorem Ends.before {m m' : AM} {v : AV} (h : Lead P 0 m m') (e : Ends P S m' v) : Ends P S m v := by
  obtain ⟨m1, k, hs, h1, l, e1, e2, e3⟩ := e
  exact ⟨m1, k, hs, h1, l, h.trans e1, e2, e3⟩
theorem Ends.seg (G : Good P S) {k : Nat} {m m' : AM} {hs : HB} {slots : List Nat} {r : List (Bool × Bool × Bool)} {v : AV} (hr : segX P S k (withH hs m) slots = some (m', logOf r [])) (hl : ∀ e ∈ r, e.1 = true → e.2.1 = e.2.2) (e : Ends P S m' v) : Ends P S m v :=
  Ends.before (lead_seg G hr (logOf_held hl)) e
theorem Ends.segT {T : TSum} (G : Good P (cutT T)) {k : Nat} {m m' : AM} {hs : HB} {slots : List Nat} {r : List (Bool × Bool × Bool)} {v : AV} (hr : EV.segT P T k (withH hs m) slots = some (m', logOf r [])) (hl : ∀ e ∈ r, e.1 = true → e.2.1 = e.2.2) (e : Ends P S m' v) : Ends P S m v :=
  Ends.before (lead_segT G hr (logOf_held hl)) e
theorem Ends.last {k : Nat} {m : AM} {hs : HB} {r : List (Bool × Bool × Bool)} {v : AV} {h : AH} (hr : lastX P S k (withH hs m) = some (v, h, logOf r [])) (hl : ∀ e ∈ r, e.1 = true → e.2.1 = e.2.2) : Ends P S m v :=
  ⟨m, k, hs, h, _, Lead.refl m, hr, logOf_held hl⟩
end
end Go.EV
