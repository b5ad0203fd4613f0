/- Own text of this claim: an abstract machine over the given program form, and what follows from it. No condition. -/
import Derived.Test.YtekijepgmmemiaaGreatEv4
set_option linter.unusedVariables false
set_option linter.unusedSimpArgs false
set_option maxHeartbeats 1000000
namespace Go.EV
section
variable {P : Program} (w : World)

theorem run_mm {ρ : Rho} (m : Bool) : ∀ {r : List AV} {x v : AV} {cx : Value} {cr : List Value}, mm m x r = some v → VR ρ x cx → VRs ρ r cr →
    ∃ c, (cr.foldlM (match m with | true => Builtin.max2 | false => Builtin.min2) cx : Sem Value).run P w = .ok c w ∧ VR ρ v c
  | [], x, v, cx, cr, h, hx, hr => by
    simp [mm] at h; subst h
    simp only [VRs] at hr; subst hr
    exact ⟨cx, by simp, hx⟩
  | y :: r, x, v, cx, cr, h, hx, hr => by
    simp only [VRs] at hr
    obtain ⟨cy, cs, rfl, hy, hr⟩ := hr
    unfold mm at h
    split at h
    · simp at *
    · rename_i k a k' b r' hyy
      cases hyy
      obtain rfl := VR_int hx
      obtain rfl := VR_int hy
      split at h
      · rename_i hk
        simp only [decide_eq_true_eq] at hk; subst hk
        obtain ⟨c, h1, h2⟩ := run_mm m (ρ := ρ) (cx := .int k (mm2 m a b)) h (by simp only [VR]) hr
        refine ⟨c, ?_, h2⟩
        cases m
        · simp only [List.foldlM_cons, Builtin.min2, Sem.run_bind, Sem.run_pure, Result.andThen_ok]; exact h1
        · simp only [List.foldlM_cons, Builtin.max2, Sem.run_bind, Sem.run_pure, Result.andThen_ok]; exact h1
      · simp at h
    · simp at h

theorem run_lenV {ρ : Rho} {t : TypeId} {x v : AV} {cx : Value} (h : lenV P t x = some v) (hx : VR ρ x cx) (at' : Array TypeId) (hat : at'.toList = [t]) (ty : TypeId) :
    ∃ c, (Builtin.len_ at' ty #[cx]).run P w = .ok c w ∧ VR ρ v c := by
  have e0 : at'[0]? = some t := by
    rw [← Array.getElem?_toList, hat]; rfl
  unfold lenV at h
  split at h
  · rename_i hu
    simp at h; subst h
    simp only [VR] at hx
    obtain ⟨cb, k, _, rfl, _⟩ := hx
    exact ⟨_, by simp [Builtin.len_, e0, run_ul w hu]; rfl, by simp only [VR, goInt]⟩
  · rename_i hu
    simp at h; subst h
    obtain ⟨a, k, rfl⟩ := hx.ls_sl
    exact ⟨_, by simp [Builtin.len_, e0, run_ul w hu]; rfl, by simp only [VR, goInt]⟩
  · rename_i hu
    simp at h; subst h
    obtain ⟨a, k, rfl⟩ := hx.es_sl
    exact ⟨_, by simp [Builtin.len_, e0, run_ul w hu]; rfl, by simp only [VR, goInt]⟩
  · rename_i hu
    simp at h; subst h
    simp only [VR] at hx; subst hx
    exact ⟨goInt 0, by simp [Builtin.len_, e0, run_ul w hu], by simp [VR, goInt]⟩
  · rename_i hu
    simp at h; subst h
    simp only [VR] at hx
    obtain ⟨a, k, rfl, _⟩ := hx
    exact ⟨goInt 0, by simp [Builtin.len_, e0, run_ul w hu], by simp [VR, goInt]⟩
  · rename_i hu
    simp at h; subst h
    simp only [VR] at hx; subst hx
    exact ⟨_, by simp [Builtin.len_, e0, run_ul w hu]; rfl, by simp only [VR, goInt]⟩
  · simp at h

theorem run_field {ρ : Rho} {s : TypeId} {b off f : Nat} {fs : Array Field} {fd : Field} {n : Nat} (hu : P.underlying s = some (.struct fs)) (hf : fs[f]? = some fd) (hs : EV.sizeOf P fd.type = some (n + 1))
    {cx : Value} (hx : VR ρ (.ptr b off) cx) : ∃ c, (Instr.fieldAt s cx f).run P w = .ok c w ∧ VR ρ (.ptr b (off + fd.offset)) c := by
  simp only [VR] at hx
  obtain ⟨cb, hb, rfl⟩ := hx
  refine ⟨.pointer (some ⟨cb.blk, cb.base + off + fd.offset, none⟩), ?_, by simp only [VR]; exact ⟨cb, hb, by simp [Nat.add_assoc]⟩⟩
  simp [Instr.fieldAt, run_ul w hu, hf, Instr.sureAddr, fieldPlace, run_sz w hs, add_addr]

theorem run_fieldL {ρ : Rho} {s : TypeId} {cs : List AV} {k f : Nat} {fs : Array Field} {fd : Field} {n : Nat} (hu : P.underlying s = some (.struct fs)) (hf : fs[f]? = some fd) (hs : EV.sizeOf P fd.type = some (n + 1))
    {cx : Value} (hx : VR ρ (.lp cs k) cx) : ∃ c, (Instr.fieldAt s cx f).run P w = .ok c w ∧ VR ρ (.lp cs (k + fd.offset)) c := by
  simp only [VR] at hx
  obtain ⟨blk, off, arr, rfl, h⟩ := hx
  refine ⟨.pointer (some ⟨blk, off + k + fd.offset, none⟩), ?_, by simp only [VR]; exact ⟨blk, off, arr, by simp [Nat.add_assoc], h⟩⟩
  simp [Instr.fieldAt, run_ul w hu, hf, Instr.sureAddr, fieldPlace, run_sz w hs, add_addr]
theorem run_fieldE {ρ : Rho} {s : TypeId} {b j k e f : Nat} {fs : Array Field} {fd : Field} {n : Nat} (hu : P.underlying s = some (.struct fs)) (hf : fs[f]? = some fd) (hs : EV.sizeOf P fd.type = some (n + 1))
    {cx : Value} (hx : VR ρ (.ep b j k e) cx) : ∃ c, (Instr.fieldAt s cx f).run P w = .ok c w ∧ VR ρ (.ep b j (k + fd.offset) e) c := by
  simp only [VR] at hx
  obtain ⟨cb, hb, rfl, h⟩ := hx
  refine ⟨.pointer (some ⟨cb.blk, cb.base + j * e + k + fd.offset, none⟩), ?_, by simp only [VR]; exact ⟨cb, hb, by simp [Nat.add_assoc], h⟩⟩
  simp [Instr.fieldAt, run_ul w hu, hf, Instr.sureAddr, fieldPlace, run_sz w hs, add_addr]

theorem pure_sound {ρ : Rho} {f : Operand → Option AV} {e : Operand → Value} (hf : EvR ρ f e) {o : Oper} {v : AV} (h : pureOp P f o.op = some v) :
    ∃ c, (execOp e o).run P w = .ok (.value c) w ∧ VR ρ v c := by
  obtain ⟨dst, op, ty, pos, after, guard⟩ := o
  simp only at h
  unfold pureOp at h
  split at h
  · exact ⟨_, rfl, hf _ _ h⟩
  · exact ⟨_, rfl, hf _ _ h⟩
  · rename_i c a b
    split at h
    · rename_i hc
      have := VR_bool (hf _ _ hc)
      exact ⟨_, by simp [execOp, this, asBool], hf _ _ h⟩
    · rename_i hc
      have := VR_bool (hf _ _ hc)
      exact ⟨_, by simp [execOp, this, asBool], hf _ _ h⟩
    · simp at h
  · rename_i t ps
    have h' : pureOp P f (.build t ps) = some v := by unfold pureOp; exact h
    obtain ⟨c, h1, h2⟩ := run_build w hf h'
    exact ⟨c, by simp only [execOp, Sem.run_bind, h1, Result.andThen_ok, Sem.run_pure], h2⟩
  · rename_i x
    split at h
    · rename_i b off hx
      simp at h; subst h
      have hr := hf _ _ hx
      have hr' := hr
      simp only [VR] at hr'
      obtain ⟨cb, hb, he⟩ := hr'
      exact ⟨e x, by simp only [execOp, he]; rfl, hr⟩
    · rename_i b off hx
      simp at h; subst h
      have hr := hf _ _ hx
      obtain ⟨a, he⟩ := hr.lp_pt
      exact ⟨e x, by simp only [execOp, he]; rfl, hr⟩
    · rename_i b j k e2 hx
      simp at h; subst h
      have hr := hf _ _ hx
      obtain ⟨a, he⟩ := hr.ep_pt
      exact ⟨e x, by simp only [execOp, he]; rfl, hr⟩
    · rename_i g a c hx
      split at h
      · rename_i g'
        simp at h; subst h
        have hr := hf _ _ hx
        have hr' := hr
        simp only [VR] at hr'
        obtain ⟨as, cs, he, _⟩ := hr'
        exact ⟨e x, by simp only [execOp, he]; rfl, hr⟩
      · simp at h
    · rename_i b hx
      simp at h; subst h
      have hr := hf _ _ hx
      have hr' := hr
      simp only [VR] at hr'
      obtain ⟨cb, hb, he⟩ := hr'
      exact ⟨e x, by simp only [execOp, he]; rfl, hr⟩
    · simp at h
  · rename_i op t x y yt
    split at h
    · rename_i a b hx hy
      obtain ⟨g1, c, g2, g3⟩ := run_bin w h (hf _ _ hx) (hf _ _ hy) x y
      exact ⟨c, by simp only [execOp, Sem.run_bind, g1, g2, Result.andThen_ok, Sem.run_pure], g3⟩
    · simp at h
  · rename_i op t x
    split at h
    · rename_i b hx
      simp at h; subst h
      have := VR_bool (hf _ _ hx)
      exact ⟨.bool !b, by simp only [execOp, this]; rfl, by simp only [VR]⟩
    · rename_i k n hx
      simp at h; subst h
      have := VR_int (hf _ _ hx)
      exact ⟨.int k (k.wrap (0 - n)), by simp only [execOp, this]; rfl, by simp [VR]⟩
    · simp at h
  · rename_i src dst' x
    split at h
    · rename_i k0 k k' n hs hd hx
      simp at h; subst h
      have := VR_int (hf _ _ hx)
      exact ⟨.int k (k.wrap n), by simp [execOp, this, convert, run_ul w hs, run_ul w hd, Conv.intToInt], by simp only [VR]⟩
    · simp at h
  · rename_i fn first cap
    split at h
    · rename_i a c ha hc
      simp at h; subst h
      have h1 := allOf_rel (e := e) (fun o v => hf o v) ha
      have h2 := allOf_rel (e := e) (fun o v => hf o v) hc
      exact ⟨.func fn (first.map e) (cap.map e), rfl, by simp only [VR]; exact ⟨_, _, rfl, by simpa using h1, by simpa using h2⟩⟩
    · simp at h
  · rename_i t x lo hi mx
    split at h
    · rename_i a l hh m hx hl hh' hm
      obtain ⟨l1, l2⟩ := optA_rel hf hl
      obtain ⟨l3, l4⟩ := optA_rel hf hh'
      obtain ⟨l5, l6⟩ := optA_rel hf hm
      obtain ⟨c, h1, h2⟩ := run_sliceV w h (hf _ _ hx) l1 l2 l3 l4 l5 l6
      exact ⟨c, by simp only [execOp, Sem.run_bind, h1, Result.andThen_ok, Sem.run_pure], h2⟩
    · simp at h
  · rename_i s x i
    split at h
    · rename_i fs b off hu hx
      split at h
      · rename_i fd hfd
        split at h
        · rename_i n hn
          simp at h; subst h
          obtain ⟨c, h1, h2⟩ := run_field w hu hfd hn (hf _ _ hx)
          exact ⟨c, by simp only [execOp, Sem.run_bind, h1, Result.andThen_ok, Sem.run_pure], h2⟩
        · simp at h
      · simp at h
    · rename_i fs cs k hu hx
      split at h
      · rename_i fd hfd
        split at h
        · rename_i n hn
          simp at h; subst h
          obtain ⟨c, h1, h2⟩ := run_fieldL w hu hfd hn (hf _ _ hx)
          exact ⟨c, by simp only [execOp, Sem.run_bind, h1, Result.andThen_ok, Sem.run_pure], h2⟩
        · simp at h
      · simp at h
    · rename_i fs b j k e2 hu hx
      split at h
      · rename_i fd hfd
        split at h
        · rename_i n hn
          simp at h; subst h
          obtain ⟨c, h1, h2⟩ := run_fieldE w hu hfd hn (hf _ _ hx)
          exact ⟨c, by simp only [execOp, Sem.run_bind, h1, Result.andThen_ok, Sem.run_pure], h2⟩
        · simp at h
      · simp at h
    · simp at h
  · rename_i s x i
    split at h
    · rename_i fs cs hu hx
      split at h
      · rename_i fd hfd
        have hr := hf _ _ hx
        simp only [VR] at hr
        obtain ⟨as, he, hv⟩ := hr
        obtain ⟨c, h1, h2⟩ := run_part w h hv
        exact ⟨c, by simp [execOp, he, Instr.field, run_ul w hu, hfd, asAgg, h1], h2⟩
      · simp at h
    · simp at h
  · rename_i t x ix
    split at h
    · rename_i a i hx hi
      obtain ⟨c, h1, h2⟩ := run_idx w h (hf _ _ hx) (hf _ _ hi)
      exact ⟨c, by simp only [execOp, Sem.run_bind, h1, Result.andThen_ok, Sem.run_pure], h2⟩
    · simp at h
  · rename_i t x ix
    split at h
    · rename_i a i hx hi
      obtain ⟨c, h1, h2⟩ := run_indexV w h (hf _ _ hx) (hf _ _ hi)
      exact ⟨c, by simp only [execOp, Sem.run_bind, h1, Result.andThen_ok, Sem.run_pure], h2⟩
    · simp at h
  · rename_i t i
    split at h
    · rename_i vs hx
      have hr := hf _ _ hx
      simp only [VR] at hr
      obtain ⟨as, he, hv⟩ := hr
      obtain ⟨c, h1, h2⟩ := VRs.get hv h
      have h1' : as[i]? = some c := by simpa using h1
      exact ⟨c, by simp [execOp, he, Instr.extract, h1'], h2⟩
    · simp at h
  · rename_i args argTypes
    split at h
    · rename_i x t ha ht
      split at h
      · rename_i a hx
        obtain ⟨c, h1, h2⟩ := run_lenV w h (hf _ _ hx) argTypes ht ty
        have hm : args.map e = #[e x] := by apply Array.ext'; simp [ha]
        exact ⟨c, by simp [execOp, resolve, hm, invoke, builtin, h1], h2⟩
      · simp at h
    · simp at h
  · rename_i args argTypes
    split at h
    · rename_i x r ha
      have hr := allOf_rel (e := e) (fun o v => hf o v) ha
      simp only [VRs] at hr
      obtain ⟨c, cs, he, h1, h2⟩ := hr
      obtain ⟨c', g1, g2⟩ := run_mm (P := P) w true h h1 h2
      have hm : (args.map e).toList = c :: cs := by simpa using he
      exact ⟨c', by simp only [execOp, resolve, invoke, builtin, Sem.run_bind, Sem.run_pure, Result.andThen_ok, Builtin.max_, hm]; rw [g1]; rfl, g2⟩
    · simp at h
  · rename_i args argTypes
    split at h
    · rename_i x r ha
      have hr := allOf_rel (e := e) (fun o v => hf o v) ha
      simp only [VRs] at hr
      obtain ⟨c, cs, he, h1, h2⟩ := hr
      obtain ⟨c', g1, g2⟩ := run_mm (P := P) w false h h1 h2
      have hm : (args.map e).toList = c :: cs := by simpa using he
      exact ⟨c', by simp only [execOp, resolve, invoke, builtin, Sem.run_bind, Sem.run_pure, Result.andThen_ok, Builtin.min_, hm]; rw [g1]; rfl, g2⟩
    · simp at h
  · simp at h
end
end Go.EV
