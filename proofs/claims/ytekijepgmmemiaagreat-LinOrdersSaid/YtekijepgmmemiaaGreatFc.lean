/- Own text of this claim: an abstract machine over the given program form, and what follows from it. No condition. -/
import Derived.Test.YtekijepgmmemiaaGreatFb
set_option linter.unusedVariables false
set_option linter.unusedSimpArgs false
set_option maxHeartbeats 1000000
namespace Go.EV
section
variable {P : Program} {U : TSum} {fn : FuncId} {ctl : ACtl} {n : Nat} {below : List AFr} {hs : HB}

theorem oCase_reach {α : Type} {m : AM} {b : Nat} {kk : α → ARes} {x : Option α} (h : ∀ v, x = some v → Reach P (cutT U) m (kk v)) : Reach P (cutT U) m (oCase (.bad b) kk x) := by
  cases x with
  | none => trivial
  | some v => exact h v rfl

theorem slow_reach {k : List AItem} {ts : Tr AV} {h : AH} {l : Log} : Reach P (cutT U) ⟨⟨fn, ctl, n, ts, k⟩, below, h, hs, l⟩ (slowC ⟨P, U, fn, ctl, n, below, hs⟩ k ts h l) := by
  show Reach P (cutT U) _ (fz (stepA P (cutT U) ⟨⟨fn, ctl, n, ts, k⟩, below, h, hs, l⟩))
  rw [fz_eq]
  exact Reach.step
theorem end_reach {k : List AItem} {ts : Tr AV} {h : AH} {l : Log} {j : Option Code} (e : stepA P (cutT U) ⟨⟨fn, ctl, n, ts, k⟩, below, h, hs, l⟩ = leaveJ P ⟨⟨fn, ctl, n, ts, k⟩, below, h, hs, l⟩ j) :
    Reach P (cutT U) ⟨⟨fn, ctl, n, ts, k⟩, below, h, hs, l⟩ (endC ⟨P, U, fn, ctl, n, below, hs⟩ k ts h l j) := by
  show Reach P (cutT U) _ (fz (leaveJ P ⟨⟨fn, ctl, n, ts, k⟩, below, h, hs, l⟩ j))
  rw [fz_eq, ← e]
  exact Reach.step

theorem codeX_reach (c : Code) : ∀ (k : List AItem) (ts : Tr AV) (h : AH) (l : Log),
    Reach P (cutT U) ⟨⟨fn, ctl, n, ts, .code c :: k⟩, below, h, hs, l⟩ (codeX ⟨P, U, fn, ctl, n, below, hs⟩ c k ts h l) := by
  induction c with
  | skip => intro k ts h l; exact fun _ => .one (by simp only [stepA])
  | region id ops d =>
    intro k ts h l
    cases d with
    | false => exact Reach.before (.one (b := ⟨⟨fn, ctl, n, ts, .reg ops ops.toList :: k⟩, below, h, hs, l⟩) (by simp only [stepA])) reg1_reach
    | true => exact oCase_reach fun all ha _ => .one (by simp only [stepA, ha])
  | seq a b iha ihb => intro k ts h l; exact Reach.before (.one (by simp only [stepA])) (iha (.code b :: k) ts h l)
  | cond c t e iht ihe =>
    intro k ts h l
    show Reach P (cutT U) _ (CGet.rec (motive := fun _ => ARes) (cCond1 (codeX ⟨P, U, fn, ctl, n, below, hs⟩ t) (codeX ⟨P, U, fn, ctl, n, below, hs⟩ e) k ts h l) (cget c))
    have hc := cget_eq c ts
    revert hc
    cases cget c with
    | mk g =>
      intro hc
      have hc : g ts = ev ts c := hc
      refine oCase_reach fun v hv => ?_
      rw [hc] at hv
      cases v with
      | bool b => cases b with
        | true => exact Reach.before (.one (by simp only [stepA, hv])) (iht k ts h l)
        | false => exact Reach.before (.one (by simp only [stepA, hv])) (ihe k ts h l)
      | _ => trivial
  | block id b ih => intro k ts h l; exact Reach.before (.one (by simp only [stepA])) (ih (.inBlock id :: k) ts h l)
  | loop b ih => intro k ts h l; exact Reach.before (.one (by simp only [stepA])) (ih (.inLoop b :: k) ts h l)
  | rangeFunc f params assign body _ _ => intro k ts h l; exact slow_reach
  | exit id =>
    intro k ts h l
    show Reach P (cutT U) _ (oCase (endC ⟨P, U, fn, ctl, n, below, hs⟩ (.code (.exit id) :: k) ts h l (some (.exit id))) (fun k' => goC ⟨P, U, fn, ctl, n, below, hs⟩ k' ts h l) (exitToA id k))
    cases hk : exitToA id k with
    | none => exact end_reach (by simp only [stepA, hk])
    | some k' => exact fun _ => .one (by simp only [stepA, hk])
  | scope b ih => intro k ts h l; exact Reach.before (.one (by simp only [stepA])) (ih (.inScope b :: k) ts h l)
  | label i => intro k ts h l; exact fun _ => .one (by simp only [stepA])
  | goto i => intro k ts h l; exact slow_reach
  | ret => intro k ts h l; exact end_reach (by simp only [stepA])
  | refuse why => intro k ts h l; trivial

/-! regions that draw their order -/
theorem testBit_pow (i j : Nat) : (2 ^ i).testBit j = decide (i = j) := Nat.testBit_two_pow ..
theorem hasB_pow (d i : Nat) : hasB d (2 ^ i) = d.testBit i := by
  unfold hasB
  rw [Bool.eq_iff_iff, Nat.beq_eq]
  constructor
  · intro h
    have := congrArg (fun x => x.testBit i) h
    have h2 : (Nat.land d (2 ^ i)).testBit i = (d.testBit i && (2 ^ i).testBit i) := Nat.testBit_and ..
    simp only [h2, testBit_pow, decide_true, Bool.and_true] at this
    exact this
  · intro h
    apply Nat.eq_of_testBit_eq
    intro j
    have h2 : (Nat.land d (2 ^ i)).testBit j = (d.testBit j && (2 ^ i).testBit j) := Nat.testBit_and ..
    rw [h2, testBit_pow]
    by_cases e : i = j
    · subst e; simp [h]
    · simp [e]
theorem hasB_or (d a b : Nat) : hasB d (Nat.lor a b) = (hasB d a && hasB d b) := by
  unfold hasB
  rw [Bool.eq_iff_iff, Bool.and_eq_true, Nat.beq_eq, Nat.beq_eq, Nat.beq_eq]
  have land : ∀ x y j, (Nat.land x y).testBit j = (x.testBit j && y.testBit j) := fun x y j => Nat.testBit_and ..
  have lor : ∀ x y j, (Nat.lor x y).testBit j = (x.testBit j || y.testBit j) := fun x y j => Nat.testBit_or ..
  constructor
  · intro h
    have hj : ∀ j, (d.testBit j && (a.testBit j || b.testBit j)) = (a.testBit j || b.testBit j) := fun j => by
      have := congrArg (fun x => x.testBit j) h
      simpa only [land, lor] using this
    constructor
    · apply Nat.eq_of_testBit_eq
      intro j
      have := hj j
      rw [land]
      revert this
      cases d.testBit j <;> cases a.testBit j <;> cases b.testBit j <;> simp
    · apply Nat.eq_of_testBit_eq
      intro j
      have := hj j
      rw [land]
      revert this
      cases d.testBit j <;> cases a.testBit j <;> cases b.testBit j <;> simp
  · rintro ⟨h1, h2⟩
    apply Nat.eq_of_testBit_eq
    intro j
    have e1 := congrArg (fun x => x.testBit j) h1
    have e2 := congrArg (fun x => x.testBit j) h2
    simp only [land] at e1 e2
    rw [land, lor]
    revert e1 e2
    cases d.testBit j <;> cases a.testBit j <;> cases b.testBit j <;> simp
theorem hasB_mask (d : Nat) : ∀ es, hasB d (maskL es) = allBits d es
  | [] => by
    unfold hasB
    show Nat.beq (Nat.land d 0) 0 = true
    rw [Nat.beq_eq]
    exact Nat.and_zero d
  | e :: es => by
    unfold maskL
    rw [forceN_eq]
    show hasB d (Nat.lor (2 ^ e) (maskL es)) = _
    rw [hasB_or, hasB_pow, hasB_mask d es]
    rfl

/-- an operation of slots alone leaves the memory -/
theorem cSym_same {cg : Operand → CGet} {c0 : COp} {op : Op} {u : Sure} (hk : kindOf op = .pure) {ts : Tr AV} {h h' : AH} {v : AV} {c : Bool} (e : (cSym P cg c0 op u).f ts h = some (v, h', c)) : h' = h := by
  cases u with
  | int n =>
    cases c0 with
    | slots f =>
      obtain ⟨v0, e1, e2⟩ := oCase_some e
      obtain ⟨k, c, rfl, e3⟩ := avInt_some e2
      simp only [Option.some.injEq, Prod.mk.injEq] at e3
      exact e3.2.1.symm
    | look f =>
      obtain ⟨v0, e1, e2⟩ := oCase_some e
      obtain ⟨k, c, rfl, e3⟩ := avInt_some e2
      simp only [Option.some.injEq, Prod.mk.injEq] at e3
      exact e3.2.1.symm
    | eff f => cases e
  | sure =>
    have e : (cSure P cg op).f ts h = some (v, h', c) := e
    unfold cSure at e
    split at e
    · obtain ⟨x, y, _, _, e3⟩ := binU_some e
      obtain ⟨k, a, rfl, e4⟩ := avInt_some e3
      obtain ⟨k', b, rfl, e5⟩ := avInt_some (show avInt none (intsU2 uRem h k a) y = some _ from e4)
      obtain ⟨rfl, e6⟩ := sameK_some e5
      simp only [Option.some.injEq, Prod.mk.injEq] at e6
      exact e6.2.1.symm
    · obtain ⟨x, y, _, _, e3⟩ := binU_some e
      obtain ⟨k, a, rfl, e4⟩ := avInt_some e3
      obtain ⟨k', b, rfl, e5⟩ := avInt_some (show avInt none (intsU2 uQuo h k a) y = some _ from e4)
      obtain ⟨rfl, e6⟩ := sameK_some e5
      simp only [Option.some.injEq, Prod.mk.injEq] at e6
      exact e6.2.1.symm
    · split at e
      · split at e
        · rename_i sz hs
          obtain ⟨x, y, _, _, e3⟩ := binU_some e
          obtain ⟨k, i, rfl, e4⟩ := avInt_some e3
          cases i with
          | negSucc j => cases e4
          | ofNat j =>
            obtain ⟨b, off, len, cap, esz, rfl, e5⟩ := avSl_some (show avSl none (fun b off len _ _ => some (AV.ptr b (off + j * sz), h, Nat.blt j len)) x = some _ from e4)
            simp only [Option.some.injEq, Prod.mk.injEq] at e5
            exact e5.2.1.symm
        · cases e
      · cases e
    · cases hk
    · cases hk
    · cases hk
    · cases hk
    · cases e

def DQ (P : Program) (S : Sum) (fn : FuncId) (ctl : ACtl) (n : Nat) (ops : Array Oper) (all : List RI) (k : List AItem) (below : List AFr) (hs : HB) (m : AM) : DX → Prop
  | .fin done fl ts h l => LogOk l → Star P S m ⟨⟨fn, ctl, n, ts, .dreg ops all done fl [] none :: k⟩, below, h, hs, l⟩
  | .bad _ => True

section
variable {ops : Array Oper} {all : List RI} {k : List AItem}

theorem DQ.before {m m' : AM} {r : DX} (h : Star P (cutT U) m m') (q : DQ P (cutT U) fn ctl n ops all k below hs m' r) : DQ P (cutT U) fn ctl n ops all k below hs m r := by
  cases r with
  | fin done fl ts h' l => exact fun hl => h.trans (q hl)
  | bad n => trivial
/-- an entry of the log holds, if what is reached holds -/
theorem DQ.pad {m m2 : AM} {c : Bool} {r : DX} (hm : (c, true) ∈ m2.log) (q : DQ P (cutT U) fn ctl n ops all k below hs m2 r) (h : c = true → DQ P (cutT U) fn ctl n ops all k below hs m r) : DQ P (cutT U) fn ctl n ops all k below hs m r := by
  cases r with
  | fin done fl ts h' l => exact fun hl => h (hl _ (star_log (q hl) _ hm)) hl
  | bad n => trivial
theorem DQ.oCase {α : Type} {m : AM} {b : Nat} {kk : α → DX} {x : Option α} (h : ∀ v, x = some v → DQ P (cutT U) fn ctl n ops all k below hs m (kk v)) : DQ P (cutT U) fn ctl n ops all k below hs m (EV.oCase (.bad b) kk x) := by
  cases x with
  | none => trivial
  | some v => exact h v rfl

theorem told_dT (b : Nat → Bool) (s : SX DX) (K : KD) (bit done : Nat) (ts : Tr AV) (l : Log) (fl : FL) (h : AH) (d : Nat) (v : AV) (hb : hs.f fn d = some b) :
    dT b s K bit done ts l fl h v = dV s K bit done ts (told fn hs (some d) v l).2 fl h (told fn hs (some d) v l).1 := by
  unfold told
  simp only [hb]
  cases v <;> rfl
theorem dBB_eq (o : Oper) (s : SX DX) (K : KD) (bit done : Nat) (ts : Tr AV) (l : Log) (fl : FL) (h : AH) (v : AV) :
    (dBB (ctold fn hs o.dst)).f s K bit done ts l fl h v = dV s K bit done ts (told fn hs o.dst v l).2 fl h (told fn hs o.dst v l).1 := by
  unfold ctold dBB
  cases hd : o.dst with
  | none => rfl
  | some d =>
    simp only
    cases hb : hs.f fn d with
    | none => simp only [told, hb]
    | some b => exact told_dT b s K bit done ts l fl h d v hb

theorem dGd_ok {x : RI} {s : SX DX} {K T : KD} {bit done : Nat} {fl : FL} {ts : Tr AV} {h : AH} {l : Log} {m : AM}
    (hT : guardF ops (only x.nm ts.get) x.o = some true → DQ P (cutT U) fn ctl n ops all k below hs m (T done fl ts h l))
    (hF : guardF ops (only x.nm ts.get) x.o = some false → DQ P (cutT U) fn ctl n ops all k below hs m (s undefA ts (dK K bit done fl h l))) :
    DQ P (cutT U) fn ctl n ops all k below hs m ((dGd s K bit (cguardD x.nm ops x.o) ⟨T⟩).f done fl ts h l) := by
  unfold cguardD
  split
  · rename_i hg
    exact hT (by simp only [guardF, hg])
  · rename_i j want hg
    split
    · rename_i oj hj
      split
      · rename_i d hd
        split
        · rename_i hn
          split
          rename_i g hgg
          show DQ P (cutT U) fn ctl n ops all k below hs _ (dG s K bit T g want done fl ts h l)
          unfold dG
          have hgt : ∀ t, g t = t.get d := fun t => by rw [← pg_eq d d t, hgg]
          have hG : guardF ops (only x.nm ts.get) x.o = match ts.get d with | some (.bool c) => some (c == want) | some (.tup _) => some false | _ => none := by
            unfold guardF only
            simp only [hg, hj, hd, hn]
            rcases ts.get d with _ | v
            · rfl
            · cases v <;> rfl
          refine DQ.oCase fun v hv => ?_
          rw [hgt] at hv
          rw [hv] at hG
          cases v with
          | bool c =>
            show DQ P (cutT U) fn ctl n ops all k below hs m (Bool.rec (motive := fun _ => DX) (s undefA ts (dK K bit done fl h l)) (T done fl ts h l) (c == want))
            cases hc : c == want with
            | true => exact hT (by rw [hG]; simp only [hc])
            | false => exact hF (by rw [hG]; simp only [hc])
          | tup vs => exact hF hG
          | _ => trivial
        · exact True.intro
      · exact True.intro
    · exact True.intro

theorem loadG_eq {t : TypeId} {g : AH → Nat → Nat → Option AV} (e : loadG P t = some g) (h : AH) (b off : Nat) : loadV P h t b off = g h b off := by
  unfold loadG at e
  split at e
  · rename_i ha
    split at e
    · rename_i n hn
      cases e
      exact loadN ha hn h b off
    · cases e
  · rename_i ha
    cases e
    exact load1 ha h b off
  · cases e

theorem dOp_ok {x : RI} {B : BD} {s : SX DX} {K : KD} {done : Nat} {fl : FL} {ts : Tr AV} {h : AH} {l : Log} {m : AM}
    (key : ∀ v h' q, lightOp P (only x.nm ts.get) h x.o.op = some (v, h', q) → DQ P (cutT U) fn ctl n ops all k below hs m (B s K (2 ^ x.i) done ts l (floatsWith x.i q fl) h' v)) :
    DQ P (cutT U) fn ctl n ops all k below hs m ((dOp P x.nm B s K (2 ^ x.i) x.i x.o.op).f done fl ts h l) := by
  have gen : DQ P (cutT U) fn ctl n ops all k below hs m (dGen B s K (2 ^ x.i) x.i (fun fr h => lightOp P (only x.nm fr.get) h x.o.op) done fl ts h l) := by
    refine DQ.oCase fun p hv => ?_
    obtain ⟨v, h', q⟩ := p
    show DQ P (cutT U) fn ctl n ops all k below hs m (forceH h' fun h => B s K (2 ^ x.i) done ts l (floatsWith x.i q fl) h v)
    rw [forceH_eq]
    exact key v h' q hv
  unfold dOp
  split
  · rename_i t x' hop
    split
    · rename_i g a hg ha
      refine DQ.oCase fun p hp => ?_
      have hp : evF (only x.nm ts.get) x' = some p := by rw [← cgetD_eq, ha]; exact hp
      cases p with
      | ptr b off =>
        show DQ P (cutT U) fn ctl n ops all k below hs m (EV.oCase (.bad 32) (dLd2 B s K (2 ^ x.i) x.i t done fl ts h l b off) (g h b off))
        refine DQ.oCase fun v hv => ?_
        refine key v h (some (.load t (.ptr b off) v)) ?_
        rw [← loadG_eq hg] at hv
        rw [hop]
        simp only [lightOp, kindOf, hp, loadA, hv]
      | _ => trivial
    · exact gen
  · split
    · rename_i hk
      have ho := cpure_ok (P := P) (g := fun ts => only x.nm ts.get) (fun o ts => cgetD_eq x.nm o ts) (copE_ok (op := x.o.op))
      revert ho
      cases cpure P (cgetD x.nm) (copE P x.o.op) x.o.op with
      | slots f =>
        intro ho
        refine DQ.oCase fun v hv => ?_
        refine key v h none ?_
        have := ho.2 ts v hv
        simp only [lightOp, hk, this]
      | look f => exact fun _ => gen
      | eff f => exact fun _ => gen
    · exact gen

theorem dSym_ok {x : RI} {s : SX DX} {K : KD} {u : Sure} {done : Nat} {fl : FL} {ts : Tr AV} {h : AH} {l : Log} {m : AM}
    (key : ∀ v q c, (c = true → lightOp P (only x.nm ts.get) h x.o.op = some (v, h, q)) → DQ P (cutT U) fn ctl n ops all k below hs m (s v ts (dK K (2 ^ x.i) done (floatsWith x.i q fl) h ((c, true) :: l)))) :
    DQ P (cutT U) fn ctl n ops all k below hs m ((dSym P x.nm s K (2 ^ x.i) x.i x.o.op u).f done fl ts h l) := by
  unfold dSym
  split
  · rename_i hk
    refine DQ.oCase fun p hp => ?_
    obtain ⟨v, h', c⟩ := p
    have hh : h' = h ∧ (c = true → lightOp P (only x.nm ts.get) h x.o.op = some (v, h, none)) := by
      have hcop := cpure_ok (P := P) (g := fun ts => only x.nm ts.get) (fun o ts => cgetD_eq x.nm o ts) (copE_ok (op := x.o.op))
      have h1 : c = true → plainG P (evF (only x.nm ts.get)) h x.o.op = some (v, h') := fun hc => by
        subst hc
        exact cSym_ok (P := P) (g := fun ts => only x.nm ts.get) (fun o ts => cgetD_eq x.nm o ts) hcop hp
      have h2 : h' = h := cSym_same hk hp
      refine ⟨h2, fun hc => ?_⟩
      have h3 := h1 hc
      unfold plainG at h3
      unfold lightOp
      simp only [hk] at h3 ⊢
      split at h3
      · rename_i v' hv
        simp only [Option.some.injEq, Prod.mk.injEq] at h3
        simp only [hv, h3.1]
      · cases h3
    obtain ⟨rfl, hl⟩ := hh
    exact key v none c hl
  · rename_i hk
    split
    · rename_i t a hop
      split
      · rename_i agg kk hkk
        refine DQ.oCase fun p hp => ?_
        rw [cgetD_eq] at hp
        cases p with
        | ptr b off =>
          show DQ P (cutT U) fn ctl n ops all k below hs m (EV.oCase (.bad 32) (fun p => Prod.rec (motive := fun _ => DX) (dUl2 s K (2 ^ x.i) x.i t done fl ts h l b off) p) (uLd agg kk h b off))
          refine DQ.oCase fun q hq => ?_
          obtain ⟨v, c⟩ := q
          refine key v (some (.load t (.ptr b off) v)) c fun hc => ?_
          subst hc
          have := uLd_ok hkk hq
          rw [hop]
          simp only [lightOp, kindOf, hp, loadA, this]
        | _ => trivial
      · trivial
    · trivial
  · trivial

theorem dregF_reach : ∀ (rest : List RI) (done : Nat) (fl : FL) (ts : Tr AV) (h : AH) (l : Log),
    DQ P (cutT U) fn ctl n ops all k below hs ⟨⟨fn, ctl, n, ts, .dreg ops all done fl rest none :: k⟩, below, h, hs, l⟩ ((cds P fn n hs ops rest).f done fl ts h l)
  | [], done, fl, ts, h, l => fun _ => .refl _
  | x :: r, done, fl, ts, h, l => by
    have hK := dregF_reach r
    show DQ P (cutT U) fn ctl n ops all k below hs _ ((match cds P fn n hs ops r with | ⟨K⟩ => cd P fn n hs ops x K).f done fl ts h l)
    revert hK
    cases cds P fn n hs ops r with
    | mk K =>
      intro hK
      have hK : ∀ done fl ts h l, DQ P (cutT U) fn ctl n ops all k below hs ⟨⟨fn, ctl, n, ts, .dreg ops all done fl r none :: k⟩, below, h, hs, l⟩ (K done fl ts h l) := hK
      show DQ P (cutT U) fn ctl n ops all k below hs _ ((cd P fn n hs ops x K).f done fl ts h l)
      unfold cd
      simp only [forceN_eq]
      have hs' := cset_eq DX (.bad 33) n x.o.dst
      revert hs'
      cases cset DX (.bad 33) n x.o.dst with
      | mk s =>
        intro hs'
        have hs' : ∀ v ts kk, s v ts kk = match setDst n ts x.o.dst v with | some t => kk t | none => DX.bad 33 := hs'
        simp only
        have skip : done.testBit x.i || !allBits done (edgesOf x.o) → DQ P (cutT U) fn ctl n ops all k below hs ⟨⟨fn, ctl, n, ts, .dreg ops all done fl (x :: r) none :: k⟩, below, h, hs, l⟩ (K done fl ts h l) := by
          intro e
          refine DQ.before (.one ?_) (hK done fl ts h l)
          simp only [stepA, stepD, e]
        have rd : ∀ (T : DF), (done.testBit x.i || !allBits done (edgesOf x.o)) = false ∧ True → (DQ P (cutT U) fn ctl n ops all k below hs ⟨⟨fn, ctl, n, ts, .dreg ops all done fl (x :: r) none :: k⟩, below, h, hs, l⟩ (T.f done fl ts h l)) →
            DQ P (cutT U) fn ctl n ops all k below hs ⟨⟨fn, ctl, n, ts, .dreg ops all done fl (x :: r) none :: k⟩, below, h, hs, l⟩ ((dRd K (2 ^ x.i) (maskL (edgesOf x.o)) T).f done fl ts h l) := by
          intro T hd hT
          obtain ⟨T⟩ := T
          show DQ P (cutT U) fn ctl n ops all k below hs _ (Bool.rec (motive := fun _ => DX) (Bool.rec (motive := fun _ => DX) (K done fl ts h l) (T done fl ts h l) (hasB done (maskL (edgesOf x.o)))) (K done fl ts h l) (hasB done (2 ^ x.i)))
          rw [hasB_pow, hasB_mask]
          have h1 : done.testBit x.i = false ∧ allBits done (edgesOf x.o) = true := by
            have := hd.1
            rw [Bool.or_eq_false_iff] at this
            exact ⟨this.1, by simpa using this.2⟩
          rw [h1.1, h1.2]
          exact hT
        have rd2 : ∀ (T : DF), (done.testBit x.i || !allBits done (edgesOf x.o)) = true →
            DQ P (cutT U) fn ctl n ops all k below hs ⟨⟨fn, ctl, n, ts, .dreg ops all done fl (x :: r) none :: k⟩, below, h, hs, l⟩ ((dRd K (2 ^ x.i) (maskL (edgesOf x.o)) T).f done fl ts h l) := by
          intro T hd
          obtain ⟨T⟩ := T
          show DQ P (cutT U) fn ctl n ops all k below hs _ (Bool.rec (motive := fun _ => DX) (Bool.rec (motive := fun _ => DX) (K done fl ts h l) (T done fl ts h l) (hasB done (maskL (edgesOf x.o)))) (K done fl ts h l) (hasB done (2 ^ x.i)))
          rw [hasB_pow, hasB_mask]
          have hk := skip hd
          cases h1 : done.testBit x.i with
          | true => exact hk
          | false => cases h2 : allBits done (edgesOf x.o) with
            | true => rw [h1, h2] at hd; cases hd
            | false => exact hk
        cases hrd : (done.testBit x.i || !allBits done (edgesOf x.o)) with
        | true =>
          cases isHeavy x.o.op with
          | true => exact rd2 _ hrd
          | false =>
            simp only
            cases usure fn hs x.o with
            | some u => exact rd2 _ hrd
            | none =>
              simp only
              cases dBB (ctold fn hs x.o.dst)
              exact rd2 _ hrd
        | false =>
          have undef : guardF ops (only x.nm ts.get) x.o = some false → DQ P (cutT U) fn ctl n ops all k below hs ⟨⟨fn, ctl, n, ts, .dreg ops all done fl (x :: r) none :: k⟩, below, h, hs, l⟩ (s undefA ts (dK K (2 ^ x.i) done fl h l)) := by
            intro hg
            rw [hs']
            split
            · rename_i t ht
              refine DQ.before (.one ?_) (hK (Nat.lor done (2 ^ x.i)) fl t h l)
              simp only [stepA, stepD, hrd, hg, lightA, ht]
              rfl
            · trivial
          cases hh : isHeavy x.o.op with
          | true =>
            refine rd _ ⟨hrd, trivial⟩ (dGd_ok (fun hg => ?_) undef)
            refine DQ.before (.one ?_) (hK done fl ts h l)
            simp only [stepA, stepD, hrd, hg, hh]
          | false =>
            simp only
            cases hu : usure fn hs x.o with
            | some u =>
              simp only
              have hop := dSym_ok (P := P) (U := U) (fn := fn) (ctl := ctl) (n := n) (ops := ops) (all := all) (k := k) (below := below) (hs := hs) (x := x) (s := s) (K := K) (u := u) (done := done) (fl := fl) (ts := ts) (h := h) (l := l)
                (m := ⟨⟨fn, ctl, n, ts, .dreg ops all done fl (x :: r) none :: k⟩, below, h, hs, l⟩)
              refine rd _ ⟨hrd, trivial⟩ ?_
              revert hop
              cases dSym P x.nm s K (2 ^ x.i) x.i x.o.op u with
              | mk T =>
                intro hop
                refine dGd_ok (fun hg => hop ?_) undef
                intro v q c hl
                rw [hs']
                split
                · rename_i t ht
                  have hq := hK (Nat.lor done (2 ^ x.i)) (floatsWith x.i q fl) t h ((c, true) :: l)
                  refine DQ.pad (List.mem_cons_self ..) hq fun hc' => ?_
                  subst hc'
                  have hst : stepA P (cutT U) ⟨⟨fn, ctl, n, ts, .dreg ops all done fl (x :: r) none :: k⟩, below, h, hs, l⟩ = .run ⟨⟨fn, ctl, n, t, .dreg ops all (Nat.lor done (2 ^ x.i)) (floatsWith x.i q fl) r none :: k⟩, below, h, hs, l⟩ := by
                    simp only [stepA, stepD, hrd, hg, hh, hl rfl, usure_told hu, lightA, ht]
                    rfl
                  exact DQ.before (.cons hst (.pad rfl (.refl _))) hq
                · trivial
            | none =>
              simp only
              have hB := dBB_eq (fn := fn) (hs := hs) x.o s K
              revert hB
              cases dBB (ctold fn hs x.o.dst) with
              | mk B =>
                intro hB
                have hB : ∀ bit done ts l fl h v, B s K bit done ts l fl h v = dV s K bit done ts (told fn hs x.o.dst v l).2 fl h (told fn hs x.o.dst v l).1 := hB
                refine rd _ ⟨hrd, trivial⟩ ?_
                have hop := dOp_ok (P := P) (U := U) (fn := fn) (ctl := ctl) (n := n) (ops := ops) (all := all) (k := k) (below := below) (hs := hs) (x := x) (B := B) (s := s) (K := K) (done := done) (fl := fl) (ts := ts) (h := h) (l := l)
                  (m := ⟨⟨fn, ctl, n, ts, .dreg ops all done fl (x :: r) none :: k⟩, below, h, hs, l⟩)
                revert hop
                cases dOp P x.nm B s K (2 ^ x.i) x.i x.o.op with
                | mk T =>
                  intro hop
                  refine dGd_ok (fun hg => hop ?_) undef
                  intro v h' q hl
                  rw [hB]
                  unfold dV
                  rw [hs']
                  split
                  · rename_i t ht
                    refine DQ.before (.one ?_) (hK (Nat.lor done (2 ^ x.i)) (floatsWith x.i q fl) t h' (told fn hs x.o.dst v l).2)
                    simp only [stepA, stepD, hrd, hg, hh, hl, lightA, ht]
                    rfl
                  · trivial

theorem dregX_reach (rest : List RI) (done : Nat) (fl : FL) (ts : Tr AV) (h : AH) (l : Log) :
    DQ P (cutT U) fn ctl n ops all k below hs ⟨⟨fn, ctl, n, ts, .dreg ops all done fl rest none :: k⟩, below, h, hs, l⟩ (dregX P fn n hs ops rest done fl ts h l) := by
  have := dregF_reach (P := P) (U := U) (fn := fn) (ctl := ctl) (n := n) (ops := ops) (all := all) (k := k) (below := below) (hs := hs) rest done fl ts h l
  unfold dregX
  revert this
  cases cds P fn n hs ops rest
  exact fun h => h
end

theorem floatC_ok {h : AH} {f : Float} {c : Bool} (e : floatC P h f = some c) (hc : c = true) : floatOk P h f = true := by
  subst hc
  unfold floatC at e
  split at e
  · split at e
    · rename_i hl
      simp only [Option.some.injEq] at e
      unfold floatOk
      simp only [hl, e]
    · cases e
  · split at e
    · assumption
    · cases e
theorem recheckC_ok {h : AH} {mask : Nat} : ∀ {fl fl' : List (Nat × Float)} {c : Bool}, recheckC P h mask fl = some (fl', c) → c = true → recheck P h mask fl = some fl'
  | [], fl', c, e, hc => by
    simp only [recheckC, Option.some.injEq, Prod.mk.injEq] at e
    obtain ⟨rfl, rfl⟩ := e
    rfl
  | (i, f) :: r, fl', c, e, hc => by
    unfold recheckC at e
    unfold recheck
    split at e
    · rename_i hm
      simp only [hm]
      exact recheckC_ok e hc
    · rename_i hm
      simp only [hm]
      split at e
      · rename_i c1 hf
        split at e
        · rename_i r' c2 hr
          simp only [Option.some.injEq, Prod.mk.injEq] at e
          obtain ⟨rfl, rfl⟩ := e
          simp only [Bool.and_eq_true] at hc
          simp only [floatC_ok hf hc.1, recheckC_ok hr hc.2]
        · cases e
      · cases e
theorem heavyA_has {m : AM} {ops : Array Oper} {all : List RI} {done : Nat} {floats : List (Nat × Float)} {k : List AItem} {x : RI} {v : AV} {h : AH} {re : Option (List (Nat × Float))} : (heavyA P m ops all done floats k x v h re).has m.log := by
  unfold heavyA
  split
  rename_i ht
  split
  · exact told_log ht
  · trivial
theorem endD_reach {m : AM} {ops : Array Oper} {all : List RI} {done : Nat} {floats : List (Nat × Float)} {k : List AItem} (ht : m.top.todo = .dreg ops all done floats [] none :: k) :
    Reach P (cutT U) m (endD P U m ops all done floats k) := by
  have hs : stepA P (cutT U) m = stepD P (cutT U) m ops all done floats k [] := by unfold stepA; simp only [ht]
  unfold endD
  split
  · rename_i hf
    apply Reach.of
    rw [hs]
    simp only [stepD, hf]
  · rename_i x hf
    split
    · rename_i h1
      split
      · rename_i hg
        unfold heavyX
        split
        · rename_i hk
          split
          · rename_i c hop
            have h1' := h1
            have hk' := hk
            rw [hop] at h1' hk'
            split
            · rename_i f args hca
              have hsp : ∀ c2 : Bool, stepA P (cutT U) (padM m c2) = stepD P (cutT U) (padM m c2) ops all done floats k [] := by
                intro c2
                unfold stepA padM
                simp only [ht]
              split
              · rename_i v h2 hS
                apply Reach.of
                rw [hs]; simp only [stepD, hf, h1', hg, hk', hop, hca, cutT_none hS]
              · rename_i v hS
                apply Reach.of
                rw [hs]; simp only [stepD, hf, h1', hg, hk', hop, hca, cutT_none hS]
              · rename_i v h2 c2 hS
                split
                · rename_i fl c3 hre
                  refine Reach.padc heavyA_has fun hc2 => ?_
                  have hc3 := hc2
                  simp only [Bool.and_eq_true] at hc3
                  obtain ⟨hc3, rfl⟩ := hc3
                  rw [hc2]
                  apply Reach.of
                  rw [hsp]
                  simp only [stepD, padM, hf, h1', hg, hk', hop, hca, cutT_true hS, recheckC_ok hre hc3]
                · trivial
              · rename_i v c2 hS
                refine Reach.padc heavyA_has fun hc2 => ?_
                subst hc2
                apply Reach.of
                rw [hsp]
                simp only [stepD, padM, hf, h1', hg, hk', hop, hca, cutT_true hS]
              · rename_i hS
                split
                · rename_i g hen
                  apply Reach.of
                  rw [hs]; simp only [stepD, hf, h1', hg, hk', hop, hca, cutT_no hS, hen]
                · trivial
            · apply Reach.of
              rw [hs]
          · trivial
        · rename_i hk
          split
          · split
            · rename_i v h2 he
              apply Reach.of
              rw [hs]
              simp only [stepD, hf, h1, hg, he]
              try (split <;> first | rfl | (rename_i hk2; exact absurd hk2 hk))
            · trivial
          · rename_i u hu
            split
            · rename_i v h2 c hc
              split
              · rename_i fl c2 ts hre hts
                show LogOk ((c2 && c, true) :: m.log) → _
                intro hl
                have hct : (c2 && c) = true := hl (c2 && c, true) (List.mem_cons_self ..)
                have hct2 := hct
                simp only [Bool.and_eq_true] at hct2
                obtain ⟨hc2, rfl⟩ := hct2
                have hre := recheckC_ok hre hc2
                rw [hct]
                have hhv : isHeavy x.o.op = true := by
                  simp only [Bool.and_eq_true] at h1; exact h1.2
                have hke : kindOf x.o.op = .eff := by
                  unfold isHeavy at hhv
                  revert hhv hk
                  cases kindOf x.o.op <;> intro hk hhv <;> first | rfl | exact absurd rfl hk | cases hhv
                have hef : effOp P (evF (only x.nm m.top.tmps.get)) m.heap x.o.op = some (v, h2) := by
                  unfold cHeavy at hc
                  split at hc
                  · have hpl := cSure_ok (P := P) (g := fun ts => only x.nm ts.get) (fun o ts => cgetD_eq x.nm o ts) hc
                    unfold plainG at hpl
                    simp only [hke] at hpl
                    exact hpl
                  · split at hc
                    · rename_i he
                      simp only [Option.some.injEq, Prod.mk.injEq] at hc
                      obtain ⟨rfl, rfl, _⟩ := hc
                      exact he
                    · cases hc
                refine .cons (m' := ⟨⟨m.top.fn, m.top.ctl, m.top.n, ts, .dreg ops all (done ||| 2 ^ x.i) fl all none :: k⟩, m.below, h2, m.hints, m.log⟩) ?_ (.pad rfl (.refl _))
                rw [hs]
                simp only [stepD, hf, h1, hg, hke, hef, heavyA, hre, usure_told hu, hts]
              · trivial
            · trivial
      · trivial
    · trivial

theorem stepD_has {m : AM} {ops : Array Oper} {all : List RI} {done : Nat} {floats : List (Nat × Float)} {k : List AItem} : (stepD P (cutT U) m ops all done floats k []).has m.log := by
  simp only [stepD]
  repeat' split
  all_goals first
    | trivial
    | exact heavyA_has
    | exact fun _ h => h
theorem endD_has {m : AM} {ops : Array Oper} {all : List RI} {done : Nat} {floats : List (Nat × Float)} {k : List AItem} : (endD P U m ops all done floats k).has m.log := by
  unfold endD
  split
  · exact fun _ h => h
  · split
    · split
      · unfold heavyX
        repeat' split
        all_goals first
          | trivial
          | exact heavyA_has
          | exact has_cons heavyA_has
          | exact fun _ h => h
          | exact fun _ h => List.mem_cons_of_mem _ h
          | skip
        all_goals
          exact stepD_has
      · trivial
    · trivial

theorem todoX_reach : ∀ (todo : List AItem) (ts : Tr AV) (h : AH) (l : Log), Reach P (cutT U) ⟨⟨fn, ctl, n, ts, todo⟩, below, h, hs, l⟩ (todoX ⟨P, U, fn, ctl, n, below, hs⟩ todo ts h l)
  | [], ts, h, l => end_reach (by simp only [stepA])
  | x :: k, ts, h, l => by
    cases x with
    | code c => exact codeX_reach c k ts h l
    | inBlock id => exact Reach.before (.one (by simp only [stepA])) (todoX_reach k ts h l)
    | inLoop b => exact Reach.before (.one (by simp only [stepA])) (codeX_reach b (.inLoop b :: k) ts h l)
    | inScope b => exact Reach.before (.one (by simp only [stepA])) (todoX_reach k ts h l)
    | reg ops rest => exact reg1_reach
    | dreg ops all done floats rest wait =>
      cases wait with
      | some x => trivial
      | none =>
        have ih := dregX_reach (P := P) (U := U) (fn := fn) (ctl := ctl) (n := n) (ops := ops) (all := all) (k := k) (below := below) (hs := hs) rest done floats ts h l
        show Reach P (cutT U) _ (dr2 ⟨P, U, fn, ctl, n, below, hs⟩ ops all k (dregX P fn n hs ops rest done floats ts h l))
        revert ih
        cases dregX P fn n hs ops rest done floats ts h l with
        | fin done fl ts h l =>
          intro ih
          have ih : LogOk l → Star P (cutT U) _ _ := ih
          show Reach P (cutT U) _ (fz (endD P U ⟨⟨fn, ctl, n, ts, .dreg ops all done fl [] none :: k⟩, below, h, hs, l⟩ ops all done fl k))
          rw [fz_eq]
          exact Reach.cond endD_has ih fun _ => endD_reach rfl
        | bad n => exact fun _ => trivial
    | inRF b => exact slow_reach
    | endRF b => exact slow_reach
    | begin => exact slow_reach

theorem stepX_reach (m : AM) : Reach P (cutT U) m (stepX P U m) := by
  obtain ⟨⟨fn, ctl, n, ts, todo⟩, below, h, hs, l⟩ := m
  exact todoX_reach todo ts h l

theorem runX_reach : ∀ (k : Nat) (m : AM), Reach P (cutT U) m (runX P U k m)
  | 0, m => stepX_reach m
  | k + 1, m => by
    have h1 := runX_reach k m
    show Reach P (cutT U) m (run2 (runX P U k) (runX P U k m))
    revert h1
    cases runX P U k m with
    | run m' =>
      intro h1
      have h2 := runX_reach k m'
      show Reach P (cutT U) m (runX P U k m')
      have h3 := h2.log
      revert h2 h3
      cases runX P U k m' with
      | run m2 => exact fun h2 h3 hl => (h1 fun e he => hl e (h3 hl e he)).trans (h2 hl)
      | done v h l =>
        intro h2 h3 hl
        obtain ⟨m1, s, e⟩ := h2 hl
        exact ⟨m1, (h1 fun e he => hl e (h3 hl e he)).trans s, e⟩
      | bad n => exact fun _ _ => trivial
    | done v h l => exact fun h1 => h1
    | bad n => exact fun h1 => h1
end
end Go.EV
