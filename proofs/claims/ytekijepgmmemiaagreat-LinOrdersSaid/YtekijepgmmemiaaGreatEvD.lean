/- Own text of this claim: an abstract machine over the given program form, and what follows from it. No condition. -/
import Derived.Test.YtekijepgmmemiaaGreatEv10
set_option linter.unusedVariables false
set_option linter.unusedSimpArgs false
set_option maxHeartbeats 1000000
namespace Go.EV
section
variable {P : Program}

/-- slots that are as they should be -/
def GR (ρ : Rho) (g : Nat → Option AV) (tmps : Array Value) : Prop := ∀ t v, g t = some v → ∃ c, tmps[t]? = some c ∧ VR ρ v c

theorem GR.only {ρ : Rho} {g : Nat → Option AV} {tmps : Array Value} (h : GR ρ g tmps) (nm : List Nat) : GR ρ (EV.only nm g) tmps := by
  intro t v hv
  unfold EV.only at hv
  split at hv
  · exact h t v hv
  · cases hv

theorem GR.evR {ρ : Rho} {g : Nat → Option AV} {f : Frame} (h : GR ρ g f.tmps) : EvR ρ (evF g) f.eval := by
  intro o v hv
  cases o with
  | tmp t =>
    simp only [evF] at hv
    obtain ⟨c, h1, h2⟩ := h t v hv
    simp only [Frame.eval]
    rw [show f.tmps.getD t undef = c by simp [h1]]
    exact h2
  | const x => simp only [evF] at hv; exact ofValue_rel hv
  | global x => simp [evF] at hv
  | func x => simp [evF] at hv; subst hv; simp only [Frame.eval, VR]; exact ⟨_, _, rfl, by simp [VRs], by simp [VRs]⟩

theorem GR.wanted {ρ : Rho} {g : Nat → Option AV} {tmps : Array Value} (H : GR ρ g tmps) {ops : Array Oper} {o : Oper} {b : Bool} (h : guardF ops g o = some b) : Region.wanted o (yielded ops tmps) = b := by
  unfold guardF at h
  unfold Region.wanted
  split at h
  · rename_i hg; simp at h; subst h; rw [hg]
  · rename_i j want hg
    rw [hg]
    simp only
    split at h
    · rename_i oj hoj
      split at h
      · rename_i d hd
        split at h
        · rename_i b' hb
          simp at h; subst h
          obtain ⟨c, h1, h2⟩ := H d _ hb
          rw [VR_bool h2] at h1
          simp [yielded, hoj, hd, h1]
        · rename_i b' hb
          simp at h; subst h
          obtain ⟨c, h1, h2⟩ := H d _ hb
          simp only [VR] at h2
          obtain ⟨as, rfl, _⟩ := h2
          simp [yielded, hoj, hd, h1]
        · simp at h
      · simp at h
    · simp at h

def putDst (tmps : Array Value) (dst : Option Tmp) (c : Value) : Array Value :=
  match dst with
  | some d => tmps.setIfInBounds d c
  | none => tmps

theorem putDst_size {tmps : Array Value} {dst : Option Tmp} {c : Value} : (putDst tmps dst c).size = tmps.size := by cases dst <;> simp [putDst]

/-- the machine below comes to an operation: whatever it finds is what was found above -/
theorem DI.below {ρ ρ' : Rho} {lo hi : Nat} {ops : Array Oper} {all : List RI} {done : Nat} {floats : List (Nat × Float)} {at_ : Nat → Option AV} {ct : Array Value} {i : Nat} {L : List Nat} {x : RI}
    (D : DI P ρ lo hi ops all done floats at_ ct (i :: L)) (hx : all[i]? = some x) (hdone : done.testBit i = true) {c : Value} (hx' : Ext ρ ρ')
    {vals : Nat → AV} {g0 : Nat → Option AV} (v1 : ∀ t, at_ t = cur ops vals g0 done.testBit t) (v2 : ∀ t v, cur ops vals g0 (inD (i :: L)) t = some v → ∃ c, ct[t]? = some c ∧ VR ρ v c)
    (v3 : ∀ j y, all[j]? = some y → done.testBit j = true → j ∈ L → Pend P ρ lo hi ops (only y.nm (cur ops vals g0 fun k => decide (k < j))) floats j y.o (vals j)) (hvi : VR ρ' (vals i) c)
    (hr : ∀ j b, j ∈ L → ((∃ n z, (j, Float.new b n z) ∈ floats) ∨ (j, Float.newMap b) ∈ floats) → ρ b = none → ρ' b = none) :
    DI P ρ' lo hi ops all done floats at_ (putDst ct x.o.dst c) L := by
  obtain ⟨t1, t2, t3, t4⟩ := D.topo.tail
  obtain ⟨hox, _, hdx⟩ := dst_of D.info hx
  have hcl : Closed ops (inD L) := by
    intro k o ho hk j hj
    rw [inD_iff] at hk ⊢
    by_cases e : k = i
    · subst e
      have := t3 o ho j hj
      exact fun h => this (List.mem_cons_of_mem _ h)
    · have hk' : k ∉ i :: L := by simp [e, hk]
      have := D.closedD k o ho (inD_iff.mpr hk') j hj
      rw [inD_iff] at this
      exact fun h => this (List.mem_cons_of_mem _ h)
  refine ⟨D.info, t4, fun k hk => D.lt k (List.mem_cons_of_mem _ hk), fun k h1 h2 => ?_, D.closed, hcl, fun k y d h1 h2 h3 => by rw [putDst_size]; exact D.dlt k y d h1 h2 h3, D.uniq, vals, g0, v1, fun t v h => ?_, fun k y h1 h2 h3 => ?_⟩
  · by_cases e : k = i
    · subst e; exact hdone
    · exact D.sub k h1 (by simp [e, h2])
  · rw [cur_add (W := inD (i :: L)) t1 (inD_false.mpr (List.mem_cons_self ..)) (fun j => by
      unfold inD
      by_cases e : j = i
      · subst e; simp [t2]
      · simp [e]) (fun d hdd j h1 h2 h3 => dst_after D.info D.closedD t1 (inD_false.mpr (List.mem_cons_self ..)) hdd h1 h2 h3)] at h
    rw [hdx] at h
    split at h
    · rename_i e
      cases h
      have hlt := D.dlt i x t hx hdone e
      refine ⟨c, ?_, hvi⟩
      rw [e]
      show (ct.setIfInBounds t c)[t]? = some c
      rw [Array.getElem?_setIfInBounds_self_of_lt hlt]
    · rename_i e
      obtain ⟨c', h1, h2⟩ := v2 t v h
      refine ⟨c', ?_, h2.ext hx'⟩
      cases hd : x.o.dst with
      | none => exact h1
      | some d =>
        show (ct.setIfInBounds d c)[t]? = some c'
        rw [Array.getElem?_setIfInBounds_ne (fun q => e (by rw [hd, q]))]; exact h1
  · exact (v3 k y h1 h2 h3).mono (Nat.le_refl _) (Nat.le_refl _) (fun _ h => h) (fun b _ _ h5 h6 => hr k b h3 h5 h6)

theorem finish_put {f : Frame} {ops : Array Oper} {i : Nat} {l : List Nat} {k : List Item} (ht : f.todo = .inRegion ops (i :: l) :: k) {o : Oper} (ho : ops[i]? = some o) (c : Value) :
    f.finish c = { f with tmps := putDst f.tmps o.dst c, todo := .inRegion ops l :: k } := finish_frame ht ho c

variable {N : Nat} {own : Own}

theorem catch_one {ρ : Rho} {lo hi : Nat} {ops : Array Oper} {all : List RI} {done : Nat} {floats : List (Nat × Float)} {at_ : Nat → Option AV} {f : Frame} {cs : List Frame} {w : World} {h : AH} {i : Nat} {L : List Nat} {kc : List Item}
    (hm : f.mode = .run) (ht : f.todo = .inRegion ops (i :: L) :: kc) (D : DI P ρ lo hi ops all done floats at_ f.tmps (i :: L)) (hdone : done.testBit i = true)
    (H : HRel ρ h w) (O : Owned N own ρ) (hN : N ≤ w.heap.size) (hfl : ∀ p ∈ floats, FlOk P h p.2) (hhi : hi ≤ h.next) :
    ∃ ρ' tmps' w', step P (lone f cs w) = .next (lone { f with tmps := tmps', todo := .inRegion ops L :: kc } cs w') ∧ tmps'.size = f.tmps.size ∧ DI P ρ' lo hi ops all done floats at_ tmps' L ∧
      HRel ρ' h w' ∧ Ext ρ ρ' ∧ (∀ b, b < lo → ρ' b = ρ b) ∧ Keep N own w w' ∧ Owned N own ρ' := by
  obtain ⟨t1, t2, t3, t4⟩ := D.topo.tail
  obtain ⟨x, hx⟩ := info_at D.info t1
  obtain ⟨hox, hxi, hdx⟩ := dst_of D.info hx
  obtain ⟨vals, g0, v1, v2, v3⟩ := id D.vals
  have hnL : inD (i :: L) i = false := inD_false.mpr (List.mem_cons_self ..)
  have henv := env_eq (P := P) (vals := vals) (g0 := g0) D.info D.closedD hx hnL (fun j hj => inD_iff.mpr (t3 _ hox j hj))
  have hGR : GR ρ (only x.nm (cur ops vals g0 fun j => decide (j < i))) f.tmps := by
    rw [← henv]; exact GR.only (fun t v h => v2 t v h) x.nm
  have hp := v3 i x hx hdone (List.mem_cons_self ..)
  have v3' : ∀ j y, all[j]? = some y → done.testBit j = true → j ∈ L → Pend P ρ lo hi ops (only y.nm (cur ops vals g0 fun k => decide (k < j))) floats j y.o (vals j) :=
    fun j y h1 h2 h3 => v3 j y h1 h2 (List.mem_cons_of_mem _ h3)
  have fin : ∀ {c : Value} {w' : World} {ρ' : Rho}, step P (lone f cs w) = .next (lone (f.finish c) cs w') → VR ρ' (vals i) c → HRel ρ' h w' → Ext ρ ρ' → (∀ b, b < lo → ρ' b = ρ b) → Keep N own w w' → Owned N own ρ' →
      (∀ j b, j ∈ L → ((∃ n z, (j, Float.new b n z) ∈ floats) ∨ (j, Float.newMap b) ∈ floats) → ρ b = none → ρ' b = none) →
      ∃ ρ' tmps' w', step P (lone f cs w) = .next (lone { f with tmps := tmps', todo := .inRegion ops L :: kc } cs w') ∧ tmps'.size = f.tmps.size ∧ DI P ρ' lo hi ops all done floats at_ tmps' L ∧
      HRel ρ' h w' ∧ Ext ρ ρ' ∧ (∀ b, b < lo → ρ' b = ρ b) ∧ Keep N own w w' ∧ Owned N own ρ' := by
    intro c w' ρ' hs hv hH hext hlo hK hO hr
    rw [finish_put ht hox] at hs
    exact ⟨ρ', _, w', hs, putDst_size, D.below hx hdone hext v1 v2 v3' hv hr, hH, hext, hlo, hK, hO⟩
  rcases hp with ⟨hg, hv⟩ | ⟨hg, hp⟩
  · have hw := hGR.wanted hg
    exact fin (c := undef) (skip_step hm ht hox hw) (by rw [hv]; simp [undefA, VR, VRs, undef]) H (Ext.refl ρ) (fun _ _ => rfl) (Keep.refl _ _ w) O (fun _ _ _ _ h => h)
  · have hw := hGR.wanted hg
    rcases hp with ⟨_, hp⟩ | ⟨t, a, p, hop, ha, hf⟩ | ⟨b, n, z, hn, hlo, hb, hρ, hf⟩ | ⟨b, hn, hlo, hb, hρ, hf⟩ | ⟨t, a, pcs, k, hop, ha, hl⟩
    · obtain ⟨c, h1, h2⟩ := pure_sound (P := P) w hGR.evR hp
      exact fin (oper_step hm ht hox hw h1 (.inl rfl)) h2 H (Ext.refl ρ) (fun _ _ => rfl) (Keep.refl _ _ w) O (fun _ _ _ _ h => h)
    · have hl : loadA P h t p = some (vals i) := hfl _ hf
      obtain ⟨c, h1, h2⟩ := load_soundA (P := P) w H hGR.evR hop ha hl
      exact fin (oper_step hm ht hox hw h1 (.inl rfl)) h2 H (Ext.refl ρ) (fun _ _ => rfl) (Keep.refl _ _ w) O (fun _ _ _ _ h => h)
    · have hl : h.bs.get b = some (.row n z .nil) := hfl _ hf
      rcases new_run (P := P) w hGR.evR hn with ⟨n', z', arr, elem, c, he, h1, h2, h3, h4⟩ | ⟨he, _⟩
      · cases he
        refine fin (ρ' := ρ.put b ⟨w.heap.size, 0, arr.size, 0⟩) (oper_step hm ht hox hw h1 (.inl rfl)) (h4 _ Rho.put_same) (H.late hρ (by omega) ?_) (Rho.put_ext hρ) (fun y hy => Rho.put_other (by omega)) (Keep.alloc w _ hN) (O.put (.inl hN)) ?_
        · intro x2 hg2
          rw [hl] at hg2; cases hg2
          exact ⟨arr, elem, rfl, rfl, by simpa using h2, fun i v hi => by
            obtain ⟨c, e1, e2⟩ := h3 i v hi
            exact ⟨c, by simpa using e1, e2.ext (Rho.put_ext hρ)⟩⟩
        · intro j b' hj hf' hb'
          have hne : b' ≠ b := by
            rintro rfl
            have : j = i := by
              rcases hf' with ⟨n2, z2, hf'⟩ | hf'
              · exact D.uniq _ hf' _ hf b' rfl rfl
              · exact D.uniq _ hf' _ hf b' rfl rfl
            subst this; exact t2 hj
          rw [Rho.put_other hne]; exact hb'
      · cases he
    · have hl : h.bs.get b = some (.map [] 0) := hfl _ hf
      rcases new_run (P := P) w hGR.evR hn with ⟨n', z', arr, elem, c, he, _⟩ | ⟨_, c, h1, h2⟩
      · cases he
      · refine fin (ρ' := ρ.put b ⟨w.heap.size, 0, 0, 0⟩) (oper_step hm ht hox hw h1 (.inl rfl)) (h2 _ Rho.put_same) (H.late hρ (by omega) ?_) (Rho.put_ext hρ) (fun y hy => Rho.put_other (by omega)) (Keep.alloc w _ hN) (O.put (.inl hN)) ?_
        · intro x2 hg2
          rw [hl] at hg2; cases hg2
          exact ⟨#[], rfl, by simp [mapR]⟩
        · intro j b' hj hf' hb'
          have hne : b' ≠ b := by
            rintro rfl
            have : j = i := by
              rcases hf' with ⟨n2, z2, hf'⟩ | hf'
              · exact D.uniq _ hf' _ hf b' rfl rfl
              · exact D.uniq _ hf' _ hf b' rfl rfl
            subst this; exact t2 hj
          rw [Rho.put_other hne]; exact hb'
    · obtain ⟨c, h1, h2⟩ := load_soundA (P := P) w H hGR.evR hop ha (v := vals i) hl
      exact fin (oper_step hm ht hox hw h1 (.inl rfl)) h2 H (Ext.refl ρ) (fun _ _ => rfl) (Keep.refl _ _ w) O (fun _ _ _ _ h => h)

/-- the machine below does all that the one above has done, up to what is not done yet -/
theorem catch_up : ∀ {L : List Nat} {ρ : Rho} {lo hi : Nat} {ops : Array Oper} {all : List RI} {done : Nat} {floats : List (Nat × Float)} {at_ : Nat → Option AV} {f : Frame} {cs : List Frame} {w : World} {h : AH} {kc : List Item},
    f.mode = .run → f.todo = .inRegion ops L :: kc → DI P ρ lo hi ops all done floats at_ f.tmps L →
    HRel ρ h w → Owned N own ρ → N ≤ w.heap.size → (∀ p ∈ floats, FlOk P h p.2) → hi ≤ h.next →
    ∃ ρ' tmps' w' L', Steps P (lone f cs w) (lone { f with tmps := tmps', todo := .inRegion ops L' :: kc } cs w') ∧ tmps'.size = f.tmps.size ∧ DI P ρ' lo hi ops all done floats at_ tmps' L' ∧
      HRel ρ' h w' ∧ Ext ρ ρ' ∧ (∀ b, b < lo → ρ' b = ρ b) ∧ Keep N own w w' ∧ Owned N own ρ' ∧ (L' = [] ∨ ∃ i r, L' = i :: r ∧ done.testBit i = false)
  | [], ρ, lo, hi, ops, all, done, floats, at_, f, cs, w, h, kc, hm, ht, D, H, O, hN, hfl, hhi => by
    refine ⟨ρ, f.tmps, w, [], ?_, rfl, D, H, Ext.refl ρ, fun _ _ => rfl, Keep.refl _ _ w, O, .inl rfl⟩
    rw [← ht]; exact Steps.refl P _
  | i :: L, ρ, lo, hi, ops, all, done, floats, at_, f, cs, w, h, kc, hm, ht, D, H, O, hN, hfl, hhi => by
    cases hd : done.testBit i with
    | false =>
      refine ⟨ρ, f.tmps, w, i :: L, ?_, rfl, D, H, Ext.refl ρ, fun _ _ => rfl, Keep.refl _ _ w, O, .inr ⟨i, L, rfl, hd⟩⟩
      rw [← ht]; exact Steps.refl P _
    | true =>
      obtain ⟨ρ1, tmps1, w1, s1, z1, D1, H1, e1, l1, K1, O1⟩ := catch_one (cs := cs) hm ht D hd H O hN hfl hhi
      obtain ⟨ρ2, tmps2, w2, L2, s2, z2, D2, H2, e2, l2, K2, O2, r2⟩ := catch_up (L := L) (f := { f with tmps := tmps1, todo := .inRegion ops L :: kc }) (cs := cs) hm rfl D1 H1 O1 (Nat.le_trans hN K1.size) hfl hhi
      exact ⟨ρ2, tmps2, w2, L2, .head s1 s2, by rw [z2]; exact z1, D2, H2, e1.trans e2, fun b hb => (l2 b hb).trans (l1 b hb), K1.trans K2, O2, r2⟩
end
end Go.EV
