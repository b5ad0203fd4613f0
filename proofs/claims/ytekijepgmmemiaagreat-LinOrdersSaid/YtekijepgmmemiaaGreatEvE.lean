/- Own text of this claim: an abstract machine over the given program form, and what follows from it. No condition. -/
import Derived.Test.YtekijepgmmemiaaGreatEvM
set_option linter.unusedVariables false
set_option linter.unusedSimpArgs false
set_option maxHeartbeats 1000000
namespace Go.EV
section
variable {P : Program}

theorem run_results {ρ : Rho} {h : AH} {w : World} (H : HRel ρ h w) {a : AFr} {f : Frame} (F : FRp ρ a f) {v : AV} (hr : resultsA P a h = some v) :
    ∃ fn c, P.funcs[a.fn]? = some fn ∧ (results fn f.tmps).run P w = .ok c w ∧ VR ρ v c := by
  unfold resultsA at hr
  split at hr
  · simp at hr
  · rename_i fn hfn
    have key : ∀ (l : List ResultVar) (vs : List AV), allOf (fun r => match r with
        | ResultVar.tmp t => a.tmps.get t
        | ResultVar.cell x t => match a.tmps.get x with
          | some (.ptr b off) => loadV P h t b off
          | _ => none) l = some vs →
        ∃ cs : List Value, (l.mapM (fun r => match r with
          | ResultVar.tmp t => (pure (f.tmps.getD t undef) : Sem Value)
          | ResultVar.cell x t => do loadVar t (← asAddr (f.tmps.getD x undef)))).run P w = .ok cs w ∧ VRs ρ vs cs := by
      intro l
      induction l with
      | nil => intro vs hv; simp [allOf] at hv; subst hv; exact ⟨[], by simp, by simp [VRs]⟩
      | cons r l ih =>
        intro vs hv
        simp only [allOf] at hv
        split at hv
        · rename_i u hu
          split at hv
          · rename_i us hus
            simp at hv; subst hv
            obtain ⟨cs, h1, h2⟩ := ih us hus
            have hone : ∃ c, (match r with
                | ResultVar.tmp t => (pure (f.tmps.getD t undef) : Sem Value)
                | ResultVar.cell x t => do loadVar t (← asAddr (f.tmps.getD x undef))).run P w = .ok c w ∧ VR ρ u c := by
              cases r with
              | tmp t =>
                obtain ⟨c, g1, g2⟩ := F.tmps t u hu
                exact ⟨c, by simp [g1], g2⟩
              | cell x t =>
                simp only at hu
                split at hu
                · rename_i b off hx
                  obtain ⟨c, g1, g2⟩ := F.tmps x _ hx
                  simp only [VR] at g2
                  obtain ⟨cb, hb, rfl⟩ := g2
                  obtain ⟨c', g3, g4⟩ := run_loadV (P := P) w H hu hb
                  refine ⟨c', ?_, g4⟩
                  simp only [show f.tmps.getD x undef = .pointer (some ⟨cb.blk, cb.base + off, none⟩) by simp [g1], asAddr, Sem.run_bind, Sem.run_pure, Result.andThen_ok, g3]
                · simp at hu
            obtain ⟨c, g1, g2⟩ := hone
            refine ⟨c :: cs, ?_, by simp only [VRs]; exact ⟨c, cs, rfl, g2, h2⟩⟩
            simp only [List.mapM_cons, Sem.run_bind, g1, h1, Result.andThen_ok, Sem.run_pure]
          · simp at hv
        · simp at hv
    have hres : ∀ (vs : List AV), allOf (fun r => match r with
        | ResultVar.tmp t => a.tmps.get t
        | ResultVar.cell x t => match a.tmps.get x with
          | some (.ptr b off) => loadV P h t b off
          | _ => none) fn.results.toList = some vs →
        ∃ cs : List Value, VRs ρ vs cs ∧ (results fn f.tmps).run P w = .ok (if h : cs.toArray.size = 1 then cs.toArray[0] else .tuple cs.toArray) w := by
      intro vs hvs
      obtain ⟨cs, h1, h2⟩ := key _ _ hvs
      refine ⟨cs, h2, ?_⟩
      unfold results
      rw [Array.mapM_eq_mapM_toList]
      rw [Sem.run_bind, Sem.run_map]
      erw [h1]
      rfl
    split at hr
    · rename_i u hu
      simp at hr; subst hr
      obtain ⟨cs, h1, h2⟩ := hres _ hu
      simp only [VRs] at h1
      obtain ⟨c, cs', rfl, g1, rfl⟩ := h1
      exact ⟨fn, c, hfn, by simpa using h2, g1⟩
    · rename_i us hne hus
      simp at hr; subst hr
      obtain ⟨cs, h1, h2⟩ := hres _ hus
      have hl := VRs.length h1
      have hl1 : ¬ cs.toArray.size = 1 := by
        intro hh
        simp at hh
        rw [hh] at hl
        obtain ⟨x, rfl⟩ := List.length_eq_one_iff.mp hl.symm
        exact hne x rfl
      rw [dif_neg hl1] at h2
      exact ⟨fn, _, hfn, h2, by simp only [VR]; exact ⟨_, rfl, by simpa using h1⟩⟩
    · simp at hr

/-- the steps of a return: to whoever called -/
theorem leave_steps {N : Nat} {own : Own} {ρ : Rho} {h h' : AH} {w : World} (H : HRel ρ h w) (O : Owned N own ρ) {a : AFr} {f : Frame} (F : FRp ρ a f) (hm : takeMarks h a.ctl.marks = some h') {v : AV} (hr : resultsA P a h' = some v) (hn : a.ctl.rnd = none)
    {k : List Item} (ht : f.todo = [] ∨ f.todo = .code .ret :: k) (cs : List Frame) :
    ∃ c w', VR ρ v c ∧ Steps P (lone f cs w) (lone { f with mode := .returning, defers := [] } cs w') ∧ ({ f with mode := .returning, defers := [] } : Frame).leaving P w' (.returned c) ∧ HRel ρ h' w' ∧ Keep N own w w' ∧ h'.next = h.next := by
  have hro : f.roundOf = none := by
    have := F.round
    rw [hn] at this
    exact this
  obtain ⟨w', s, H', K, hnx⟩ := take_steps (f := { f with mode := .returning }) (cs := cs) O H rfl F.defers hm
  obtain ⟨fn, c, h1, h2, h3⟩ := run_results H' F hr
  refine ⟨c, w', h3, .head (ret_step F.mode hro ht) s, ⟨rfl, rfl, F.kind, fn, ?_, h2⟩, H', K, hnx⟩
  show P.funcs[f.fn]? = some fn
  rw [F.fn]; exact h1

variable {N : Nat} {own : Own} {w0 : World} {cs0 : List Frame} {f0 : FuncId} {ρ0 : Rho} {n0 : Nat}

/-- what a run leaves when the function that was called answers -/
def Done (P : Program) (N : Nat) (own : Own) (w0 : World) (cs0 : List Frame) (f0 : FuncId) (ρ0 : Rho) (n0 : Nat) (v : AV) (h : AH) (fr : Frame) (cs : List Frame) (w : World) : Prop :=
  ∃ ρ c fr' w', Steps P (lone fr cs w) (lone fr' cs0 w') ∧ fr'.leaving P w' (.returned c) ∧ fr'.fn = f0 ∧ VR ρ v c ∧ HRel ρ h w' ∧ Keep N own w0 w' ∧ Owned N own ρ ∧ Ext2 n0 ρ0 ρ

def Goes (P : Program) (N : Nat) (own : Own) (w0 : World) (cs0 : List Frame) (f0 : FuncId) (ρ0 : Rho) (n0 : Nat) (r : ARes) (fr : Frame) (cs : List Frame) (w : World) : Prop :=
  match r with
  | .run m => LogOk m.log → ∃ fr' cs' w', Steps P (lone fr cs w) (lone fr' cs' w') ∧ MR P N own w0 cs0 f0 ρ0 n0 m fr' cs' w'
  | .done v h l => LogOk l → Done P N own w0 cs0 f0 ρ0 n0 v h fr cs w
  | .bad _ => True

theorem told_ok {f : FuncId} {d : Option Tmp} {v v' : AV} {hs : HB} {l l' : Log} (h : told f hs d v l = (v', l')) (hl : LogOk l') : v' = v ∧ LogOk l := by
  unfold told at h
  split at h
  · split at h
    · split at h
      · cases h
        have := hl _ (List.mem_cons_self ..)
        exact ⟨by simp only at this; rw [this], fun e he => hl e (List.mem_cons_of_mem _ he)⟩
      · cases h; exact ⟨rfl, hl⟩
    · cases h; exact ⟨rfl, hl⟩
  · cases h; exact ⟨rfl, hl⟩

theorem topok_plain {ρ : Rho} {a : AFr} {f : Frame} (F : FRp ρ a f) (h : AH) : TopOk P h a := by
  intro ops all done floats rest wait k ht
  have htd := F.todo
  rw [ht] at htd
  obtain ⟨y, r, hft, hxy, hr⟩ := htd.get
  cases y <;> simp only [IR] at hxy

theorem mem_rest {ops : Array Oper} {all : List RI} (I : Info ops all) : ∀ x ∈ all, all[x.i]? = some x := by
  intro x hx
  obtain ⟨i, hi⟩ := List.mem_iff_getElem?.mp hx
  obtain ⟨_, h2, _⟩ := dst_of I hi
  rw [h2]; exact hi

/-- both machines do an operation -/
theorem DI.both {ρ ρ' : Rho} {lo hi n : Nat} {ops : Array Oper} {all : List RI} {done : Nat} {floats floats' : List (Nat × Float)} {fr ts : Tr AV} {ct : Array Value} {L : List Nat} {x : RI} {v : AV} {c : Value}
    (D : DI P ρ lo hi ops all done floats fr.get ct (x.i :: L)) (hx : all[x.i]? = some x) (hd : done.testBit x.i = false) (he : allBits done (edgesOf x.o) = true) (hs : setDst n fr x.o.dst v = some ts) (hn : ct.size = n)
    (hx' : Ext ρ ρ') (hr : ∀ b, lo ≤ b → b < hi → ρ' b = ρ b) {hi' : Nat} (hh : hi ≤ hi') (hv : VR ρ' v c)
    (hf1 : ∀ p ∈ floats', p ∈ floats) (hf2 : ∀ p ∈ floats, x.mask.testBit p.1 = false → p ∈ floats') :
    DI P ρ' lo hi' ops all (done ||| 2 ^ x.i) floats' ts.get (putDst ct x.o.dst c) L := by
  obtain ⟨vals, g0, v1, v2, v3⟩ := D.vals
  obtain ⟨t1, t2, t3, t4⟩ := D.topo.tail
  obtain ⟨hox, _, hdx⟩ := dst_of D.info hx
  have he' := allBits_iff.mp he
  have hnL : inD (x.i :: L) x.i = false := inD_false.mpr (List.mem_cons_self ..)
  have hcl : Closed ops (done ||| 2 ^ x.i).testBit := by
    intro i o ho hi j hj
    rw [testBit_or] at hi ⊢
    simp only [Bool.or_eq_true, decide_eq_true_eq] at hi
    rcases hi with h | rfl
    · rw [D.closed i o ho h j hj]; rfl
    · rw [hox] at ho; cases ho; rw [he' j hj]; rfl
  have hclD : Closed ops (inD L) := by
    intro k o ho hk j hj
    rw [inD_iff] at hk ⊢
    by_cases e : k = x.i
    · subst e
      have := t3 o ho j hj
      exact fun h => this (List.mem_cons_of_mem _ h)
    · have hk' : k ∉ x.i :: L := by simp [e, hk]
      have := D.closedD k o ho (inD_iff.mpr hk') j hj
      rw [inD_iff] at this
      exact fun h => this (List.mem_cons_of_mem _ h)
  refine ⟨D.info, t4, fun k hk => D.lt k (List.mem_cons_of_mem _ hk), fun k h1 h2 => ?_, hcl, hclD, fun k y d h1 h2 h3 => ?_, fun p hp q hq => D.uniq p (hf1 p hp) q (hf1 q hq), upd vals x.i v, g0, fun t => ?_, fun t u h => ?_, fun k y h1 h2 h3 => ?_⟩
  · rw [testBit_or]
    by_cases e : k = x.i
    · subst e; simp
    · rw [D.sub k h1 (by simp [e, h2])]; rfl
  · rw [putDst_size]
    rw [testBit_or] at h2
    simp only [Bool.or_eq_true, decide_eq_true_eq] at h2
    rcases h2 with h | rfl
    · exact D.dlt k y d h1 h h3
    · rw [hx] at h1; cases h1
      rw [hn]; rw [h3] at hs; exact setDst_lt hs
  · rw [cur_add t1 hd (fun j => testBit_or) (fun d hdd j h1 h2 h3 => dst_after D.info D.closed t1 hd hdd h1 h2 h3), setDst_get hs, ← hdx]
    by_cases e : dstOf ops x.i = some t
    · rw [if_pos e, if_pos e]; simp [upd]
    · rw [if_neg e, if_neg e, cur_upd hd]; exact v1 t
  · rw [cur_add (W := inD (x.i :: L)) t1 hnL (fun j => by
      unfold inD
      by_cases e : j = x.i
      · subst e; simp [t2]
      · simp [e]) (fun d hdd j h1 h2 h3 => dst_after D.info D.closedD t1 hnL hdd h1 h2 h3)] at h
    rw [hdx] at h
    split at h
    · rename_i e
      simp only [upd, if_true] at h
      cases h
      have hlt : t < ct.size := by rw [hn]; rw [e] at hs; exact setDst_lt hs
      refine ⟨c, ?_, hv⟩
      rw [e]
      show (ct.setIfInBounds t c)[t]? = some c
      rw [Array.getElem?_setIfInBounds_self_of_lt hlt]
    · rename_i e
      rw [cur_upd hnL] at h
      obtain ⟨c', h1, h2⟩ := v2 t u h
      refine ⟨c', ?_, h2.ext hx'⟩
      cases hd : x.o.dst with
      | none => exact h1
      | some d =>
        show (ct.setIfInBounds d c)[t]? = some c'
        rw [Array.getElem?_setIfInBounds_ne (fun q => e (by rw [hd, q]))]; exact h1
  · rw [testBit_or] at h2
    simp only [Bool.or_eq_true, decide_eq_true_eq] at h2
    have hne : k ≠ x.i := by rintro rfl; exact t2 h3
    have h2' : done.testBit k = true := by rcases h2 with h | h; exact h; exact absurd h hne
    rw [env_upd D.info D.closed h1 h2' hd t1]
    simp only [upd, if_neg hne]
    have hmask : x.mask.testBit k = false := by
      cases hmk : x.mask.testBit k with
      | false => rfl
      | true =>
        have := D.info.mask (fun l => inD (x.i :: L) l = true ∨ l = x.i) (fun a o ho ha l hl => by
          rcases ha with ha | rfl
          · exact .inl (D.closedD a o ho ha l hl)
          · exact .inl (inD_iff.mpr (t3 o ho l hl))) x.i x hx (.inr rfl) k hmk
        rcases this with h | h
        · rw [inD_iff] at h; exact absurd (List.mem_cons_of_mem _ h3) h
        · exact absurd h hne
    exact (v3 k y h1 h2' (List.mem_cons_of_mem _ h3)).mono (Nat.le_refl _) hh (fun fl h => hf2 _ h hmask) (fun b h4 h5 _ h6 => by rw [hr b h4 h5]; exact h6)

theorem recheck_parts {h : AH} {mask : Nat} {fs fs' : List (Nat × Float)} (e : recheck P h mask fs = some fs') :
    (∀ p ∈ fs', p ∈ fs) ∧ (∀ p ∈ fs, mask.testBit p.1 = false → p ∈ fs') ∧ ∀ p ∈ fs', FlOk P h p.2 :=
  ⟨fun p hp => ((recheck_spec e).1 p hp).1, (recheck_spec e).2, fun p hp => ((recheck_spec e).1 p hp).2⟩

/-- the frame below has the value of a call -/
theorem pop_goes {ρ : Rho} {h : AH} {hs : HB} {l : Log} {v : AV} {cv : Value} {below : List AFr} {fr : Frame} {cfs : List Frame} {w w' : World} {B : Nat} (H : HRel ρ h w') (S : SR P ρ n0 B below cfs) (hB : B ≤ h.next) (O : Owned N own ρ) (X : Ext2 n0 ρ0 ρ) (hvc : VR ρ v cv)
    (hsteps : ∀ g gs, cfs = g :: gs → Steps P (lone fr (cfs ++ cs0) w) (lone (g.finish cv) (gs ++ cs0) w')) (K : Keep N own w0 w') (hN : N ≤ w'.heap.size) (hbot : ∀ a as, below = a :: as → EV.bot a as = f0) :
    Goes P N own w0 cs0 f0 ρ0 n0 (popA P h hs l v below) fr (cfs ++ cs0) w := by
  unfold popA
  split
  · trivial
  · rename_i a as
    simp only [SR] at S
    obtain ⟨g, gs, B', hg0, hB', hg, hS⟩ := S
    subst hg0
    have hst := hsteps g gs rfl
    have hbot : ∀ {a' : AFr}, a'.fn = a.fn → EV.bot a' as = f0 := by
      intro a' ha
      rw [← hbot a as rfl]; exact bot_fn ha as
    split
    · rename_i ops o rest k hk
      split
      · rename_i ts hts
        rcases hg with hg | ⟨_, _, _, _, _, _, ops', all, done, floats, rest', wait, k', kc, L, g1, _⟩
        · obtain ⟨i, l, kc, hti, hoi, hfr⟩ := hg.finish hk hvc hts
          exact fun _ => ⟨_, gs ++ cs0, w', hst, ⟨⟨ρ, gs, B', Nat.le_trans hB' hB, H, .inl hfr, hS, rfl, O, X⟩, topok_plain hfr _, K, hN, hbot rfl⟩⟩
        · rw [hk] at g1; cases g1
      · trivial
    · rename_i ops all done floats rest x k hk
      split
      · rename_i ts fl hts hre
        rcases hg with hg | ⟨e1, e2, e3, e4, e5, e6, ops', all', done', floats', rest', wait', k', kc, L, g1, g2, g3, g4, g5, g6⟩
        · have htd := hg.todo
          rw [hk] at htd
          obtain ⟨y, r, hft, hxy, hr⟩ := htd.get
          cases y <;> simp only [IR] at hxy
        · rw [hk] at g1; cases g1
          obtain ⟨L', rfl, hx, hd, he⟩ := g6
          obtain ⟨r1, r2, r3⟩ := recheck_parts hre
          obtain ⟨hox, _, _⟩ := dst_of g4.info hx
          have D' := g4.both (hi' := h.next) hx hd he hts e6 (Ext.refl ρ) (fun _ _ _ => rfl) (by omega) hvc r1 r2
          have hfin := finish_put g2 hox cv
          refine fun _ => ⟨_, gs ++ cs0, w', hst, ⟨⟨ρ, gs, B', Nat.le_trans hB' hB, H, .inr ?_, hS, rfl, O, X⟩, ?_, K, hN, hbot rfl⟩⟩
          · rw [hfin]
            exact ⟨e1, e2, e3, e4, e5, by rw [putDst_size]; exact e6, ops, all, _, fl, all, none, k, kc, L', rfl, rfl, g3, D', mem_rest g4.info, trivial⟩
          · intro ops2 all2 done2 floats2 rest2 wait2 k2 h2
            cases h2
            exact ⟨rfl, r3⟩
      · trivial
    · rename_i b k hk
      rcases hg with hg | ⟨_, _, _, _, _, _, ops', all, done, floats, rest', wait, k', kc, L, g1, _⟩
      · have htd := hg.todo
        rw [hk] at htd
        obtain ⟨y, r, hft, hxy, hr⟩ := htd.get
        cases y <;> simp only [IR] at hxy
        rename_i lb
        have hfin : g.finish cv = { g with todo := .endRangeFunc lb :: r } := by
          unfold Frame.finish; rw [hft]
        have hfr : FRp ρ ⟨a.fn, a.ctl, a.n, a.tmps, .endRF b :: k⟩ (g.finish cv) := by
          rw [hfin]
          exact ⟨hg.fn, hg.mode, hg.kind, hg.defers, hg.round, hg.size, hg.tmps, .cons hxy hr⟩
        exact fun _ => ⟨_, gs ++ cs0, w', hst, ⟨⟨ρ, gs, B', Nat.le_trans hB' hB, H, .inl hfr, hS, rfl, O, X⟩, topok_plain hfr _, K, hN, hbot rfl⟩⟩
      · rw [hk] at g1; cases g1
    · trivial

theorem leave_goes {m : AM} {fr : Frame} {cs : List Frame} {w : World} (M : MR P N own w0 cs0 f0 ρ0 n0 m fr cs w) (hn : m.top.ctl.rnd = none) {k : List Item} (ht : fr.todo = [] ∨ fr.todo = .code .ret :: k) : Goes P N own w0 cs0 f0 ρ0 n0 (leaveA P m) fr cs w := by
  obtain ⟨ρ, cfs, B, hB, H, F, S, hcs, O, X⟩ := M.ex
  have F : FRp ρ m.top fr := by
    rcases F with F | ⟨_, _, _, _, _, _, ops, all, done, floats, rest, wait, k', kc, L, g1, g2, _⟩
    · exact F
    · rcases ht with ht | ht <;> (rw [ht] at g2; cases g2)
  unfold leaveA
  split
  · trivial
  · rename_i h hmk
    split
    · trivial
    · rename_i v hv
      obtain ⟨c, w', hvc, hsteps, hleave, H', K, hnx⟩ := leave_steps H O F hmk hv hn ht cs
      split
      · rename_i hb
        rw [hb] at S
        simp only [SR] at S
        obtain ⟨rfl, _⟩ := S
        simp only [List.nil_append] at hcs; subst hcs
        refine fun _ => ⟨ρ, c, _, w', hsteps, hleave, ?_, hvc, H', M.keep.trans K, O, X⟩
        have := M.bot
        rw [hb] at this
        simp only [EV.bot] at this
        show fr.fn = f0
        rw [F.fn, this]
      · rename_i a as hb
        subst hcs
        rw [hb] at S
        refine pop_goes H' S (by omega) O X hvc ?_ (M.keep.trans K) (Nat.le_trans M.size K.size) ?_
        · intro g gs hg
          subst hg
          exact Steps.trans hsteps (.one (step_leave_returned hleave))
        · intro a2 as2 he
          cases he
          have := M.bot
          rw [hb] at this
          exact this

/-- a round's end -/
theorem roundEnd_goes {m : AM} {fr : Frame} {cs : List Frame} {w : World} (M : MR P N own w0 cs0 f0 ρ0 n0 m fr cs w) {b : Nat} (hn : m.top.ctl.rnd = some b) (hnd : ∀ ops all done floats rest wait k, m.top.todo ≠ .dreg ops all done floats rest wait :: k) {jump : Option Code}
    (ht : (fr.todo = [] ∧ jump = none) ∨ (∃ k, fr.todo = .code .ret :: k ∧ jump = some .ret) ∨ (∃ id k, fr.todo = .code (.exit id) :: k ∧ exitTo id k = none ∧ jump = some (.exit id)) ∨ (∃ l k, fr.todo = .code (.goto l) :: k ∧ gotoIn l k = none ∧ jump = some (.goto l))) :
    Goes P N own w0 cs0 f0 ρ0 n0 (roundEndA P m b jump) fr cs w := by
  obtain ⟨ρ, cfs, B, hB, H, F, S, hcs, O, X⟩ := M.ex
  have F : FRp ρ m.top fr := by
    rcases F with F | ⟨_, _, _, _, _, _, ops, all, done, floats, rest, wait, k', kc, L, g1, g2, _⟩
    · exact F
    · exact absurd g1 (hnd _ _ _ _ _ _ _)
  have hro := F.round
  rw [hn] at hro
  obtain ⟨cb, hb, hro⟩ := hro
  unfold roundEndA
  split
  · rename_i st pd lfn ln ltmps lparams lassign lbody hg
    obtain ⟨r, hw, L⟩ := H.blk _ _ hg cb hb
    obtain ⟨H1, K1⟩ := H.turn O hb hg (o' := .loop ⟨endSt jump, jump, lfn, ln, ltmps, lparams, lassign, lbody⟩)
      (obj := .loop { r with state := if jump.isNone then .ready else .done, pending := jump }) ⟨_, rfl, ⟨by cases jump <;> rfl, rfl, L.fn, L.size, L.tmps, L.params, L.assign, L.body⟩⟩
    subst hcs
    refine pop_goes H1 S hB O X (cv := .bool jump.isNone) (by simp only [VR]) ?_ (M.keep.trans K1) (Nat.le_trans M.size K1.size) ?_
    · intro g gs hg2
      subst hg2
      exact .one (round_end F.mode F.kind hro hw ht)
    · intro a as he
      have := M.bot
      rw [he] at this
      exact this
  · trivial
end
end Go.EV
