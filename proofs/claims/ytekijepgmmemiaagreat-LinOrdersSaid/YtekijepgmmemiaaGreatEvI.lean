/- Own text of this claim: an abstract machine over the given program form, and what follows from it. No condition. -/
import Derived.Test.YtekijepgmmemiaaGreatEvT
import Derived.Test.YtekijepgmmemiaaGreatEvN
set_option linter.unusedVariables false
set_option linter.unusedSimpArgs false
set_option maxHeartbeats 1000000
namespace Go.EV
noncomputable section
variable {P : Program} (w : World)
/-! maps whose keys are numbers that are not known -/
theorem im_find {y kk : IntKind} {n : Int} : ∀ {ces : List MapEntry} {i : Nat}, (∀ e ∈ ces, ∃ m, e.key = .int kk m) →
    (Instr.findNow (.int y) (.int kk n) ces i = some none ∧ ∀ e ∈ ces, e.key ≠ .int kk n) ∨ (∃ j e, Instr.findNow (.int y) (.int kk n) ces i = some (some (i + j, e.val)) ∧ ces[j]? = some e ∧ e.key = .int kk n)
  | [], i, _ => .inl ⟨rfl, fun e h => by cases h⟩
  | e :: r, i, h => by
    obtain ⟨m, hm⟩ := h e (by simp)
    by_cases hnm : n = m
    · subst hnm
      exact .inr ⟨0, e, by simp [Instr.findNow, hm, Instr.sameNow], rfl, hm⟩
    · have hs : Instr.sameNow (.int y) (.int kk n) e.key = some false := by
        rw [hm]; simp [Instr.sameNow, hnm]
      rcases im_find (n := n) (y := y) (ces := r) (i := i + 1) (fun e he => h e (by simp [he])) with ⟨h1, h2⟩ | ⟨j, e', h1, h2, h3⟩
      · refine .inl ⟨by simp [Instr.findNow, hs, h1], fun e' he' => ?_⟩
        rcases List.mem_cons.mp he' with rfl | he'
        · rw [hm]; simp [Ne.symm hnm]
        · exact h2 e' he'
      · exact .inr ⟨j + 1, e', by simp [Instr.findNow, hs, h1]; omega, by simpa using h2, h3⟩
theorem imapR.keys {ρ : Rho} {kk : IntKind} {H : Int → Bool} {V : Int → AV} {ces : List MapEntry} (h : imapR ρ kk H V ces) : ∀ e ∈ ces, ∃ m, e.key = .int kk m := fun e he => by
  obtain ⟨n, h1, _⟩ := h.1 e he
  exact ⟨n, h1⟩
/-- what is found of a key -/
theorem imapR.find {ρ : Rho} {kk y : IntKind} {H : Int → Bool} {V : Int → AV} {ces : List MapEntry} (h : imapR ρ kk H V ces) (n : Int) :
    (H n = false ∧ Instr.findNow (.int y) (.int kk n) ces 0 = some none ∧ ∀ e ∈ ces, e.key ≠ .int kk n) ∨ (H n = true ∧ ∃ j e, Instr.findNow (.int y) (.int kk n) ces 0 = some (some (j, e.val)) ∧ ces[j]? = some e ∧ e.key = .int kk n ∧ VR ρ.cold (V n) e.val) := by
  rcases im_find (y := y) (n := n) (i := 0) h.keys with ⟨h1, h2⟩ | ⟨j, e, h1, h2, h3⟩
  · refine .inl ⟨?_, h1, h2⟩
    cases hn : H n with
    | false => rfl
    | true =>
      obtain ⟨e, he, hk⟩ := h.2.1 n hn
      exact absurd hk (h2 e he)
  · obtain ⟨m, g1, g2, g3⟩ := h.1 e (List.mem_of_getElem? h2)
    rw [h3] at g1
    simp only [Value.int.injEq, true_and] at g1
    subst g1
    exact .inr ⟨g2, j, e, by simpa using h1, h2, h3, g3⟩
theorem modify_same {ces : List MapEntry} {j : Nat} {e : MapEntry} {c : Value} (he : ces[j]? = some e) {k : Value} (hk : e.key = k) : (ces.modify j fun e => { e with key := k, val := c }).map (·.key) = ces.map (·.key) := by
  apply List.ext_getElem?
  intro q
  rw [List.getElem?_map, List.getElem?_map, List.getElem?_modify]
  by_cases h : j = q
  · subst h
    rw [he]; simp [hk]
  · cases ces[q]? <;> simp [h]
/-- one more is put in -/
theorem imapR.upd {ρ : Rho} {kk : IntKind} {u : List (Int × AV)} {hs : Int → Bool} {x : Int → AV} {ces : List MapEntry} (h : imapR ρ kk (imH u hs) (imV u x) ces) {n : Int} {v : AV} {c : Value} (hv : VR ρ.cold v c) {j : Nat} {e : MapEntry} (he : ces[j]? = some e) (hk : e.key = .int kk n) :
    imapR ρ kk (imH ((n, v) :: u) hs) (imV ((n, v) :: u) x) (ces.modify j fun e => { e with key := .int kk n, val := c }) := by
  have hkeys := modify_same (c := c) he hk
  refine ⟨fun e' he' => ?_, fun m hm => ?_, by rw [hkeys]; exact h.2.2⟩
  · obtain ⟨q, hq⟩ := List.mem_iff_getElem?.mp he'
    rw [List.getElem?_modify] at hq
    by_cases hj : j = q
    · subst hj
      rw [he] at hq
      simp at hq
      subst hq
      refine ⟨n, rfl, by simp [imH], ?_⟩
      show VR ρ.cold (bif n == n then v else imV u x n) c
      simpa using hv
    · cases hq2 : ces[q]? with
      | none => rw [hq2] at hq; simp at hq
      | some e2 =>
        rw [hq2] at hq
        simp [hj] at hq
        subst hq
        obtain ⟨m, g1, g2, g3⟩ := h.1 e2 (List.mem_of_getElem? hq2)
        have hne : m ≠ n := by
          rintro rfl
          have hnd := h.2.2
          have a1 : (ces.map (·.key))[j]? = some (.int kk m) := by rw [List.getElem?_map, he]; simp [hk]
          have a2 : (ces.map (·.key))[q]? = some (.int kk m) := by rw [List.getElem?_map, hq2]; simp [g1]
          have hlt := List.pairwise_iff_getElem.mp hnd
          obtain ⟨l1, d1⟩ := List.getElem?_eq_some_iff.mp a1
          obtain ⟨l2, d2⟩ := List.getElem?_eq_some_iff.mp a2
          rcases Nat.lt_trichotomy j q with h | h | h
          · exact hlt j q l1 l2 h (d1.trans d2.symm)
          · exact hj h
          · exact hlt q j l2 l1 h (d2.trans d1.symm)
        refine ⟨m, g1, by simp [imH, g2], ?_⟩
        show VR ρ.cold (bif m == n then v else imV u x m) e2.val
        rw [show (m == n) = false by simpa using hne]
        exact g3
  · have key : ∀ k : Value, k ∈ ces.map (·.key) → ∃ e ∈ (ces.modify j fun e => { e with key := .int kk n, val := c }), e.key = k := by
      intro k hk'
      rw [← hkeys] at hk'
      obtain ⟨e, h1, h2⟩ := List.mem_map.mp hk'
      exact ⟨e, h1, h2⟩
    simp only [imH, Bool.or_eq_true, beq_iff_eq] at hm
    rcases hm with rfl | hm
    · exact key _ (List.mem_map.mpr ⟨e, List.mem_of_getElem? he, hk⟩)
    · obtain ⟨e2, h1, h2⟩ := h.2.1 m hm
      exact key _ (List.mem_map.mpr ⟨e2, h1, h2⟩)
theorem imapR.push {ρ : Rho} {kk : IntKind} {u : List (Int × AV)} {hs : Int → Bool} {x : Int → AV} {ces : List MapEntry} (h : imapR ρ kk (imH u hs) (imV u x) ces) {n : Int} {v : AV} {c : Value} {b : Nat} (hv : VR ρ.cold v c) (hn : ∀ e ∈ ces, e.key ≠ .int kk n) :
    imapR ρ kk (imH ((n, v) :: u) hs) (imV ((n, v) :: u) x) (ces ++ [{ key := .int kk n, val := c, born := b }]) := by
  refine ⟨fun e' he' => ?_, fun m hm => ?_, ?_⟩
  · rcases List.mem_append.mp he' with q' | he'
    · obtain ⟨m, g1, g2, g3⟩ := h.1 e' q'
      have hne : m ≠ n := fun hmn => hn e' q' (by rw [← hmn]; exact g1)
      refine ⟨m, g1, by simp [imH, g2], ?_⟩
      show VR ρ.cold (bif m == n then v else imV u x m) e'.val
      rw [show (m == n) = false by simpa using hne]
      exact g3
    · simp only [List.mem_singleton] at he'
      subst he'
      refine ⟨n, rfl, by simp [imH], ?_⟩
      show VR ρ.cold (bif n == n then v else imV u x n) c
      simpa using hv
  · simp only [imH, Bool.or_eq_true, beq_iff_eq] at hm
    rcases hm with rfl | hm
    · exact ⟨_, List.mem_append_right _ (List.mem_singleton.mpr rfl), rfl⟩
    · obtain ⟨e2, h1, h2⟩ := h.2.1 m hm
      exact ⟨e2, List.mem_append_left _ h1, h2⟩
  · rw [List.map_append, List.nodup_append]
    refine ⟨h.2.2, by simp, fun a ha b hb => ?_⟩
    simp only [List.map_cons, List.map_nil, List.mem_singleton] at hb
    subst hb
    obtain ⟨e, h1, rfl⟩ := List.mem_map.mp ha
    exact hn e h1
/-- what a map has of a key -/
def lookI (n : Int) (z : AV) (ok : Bool) (hs : Int → Bool) (x : Int → AV) : List (Int × AV) → T AV
  | [] => .br (hs n) (.leaf (withOk ok (x n) true)) (.leaf (withOk ok z false))
  | (k, v) :: r => .br (n == k) (.leaf (withOk ok v true)) (lookI n z ok hs x r)
theorem lookI_ok {n : Int} {z : AV} {ok : Bool} {hs : Int → Bool} {x : Int → AV} {v : AV} : ∀ {u : List (Int × AV)}, (lookI n z ok hs x u).Sel v → v = withOk ok (bif imH u hs n then imV u x n else z) (imH u hs n)
  | [], h => by
    rcases h with ⟨h1, h⟩ | ⟨h1, h⟩
    · have h : withOk ok (x n) true = v := h
      subst h
      show _ = withOk ok (bif hs n then x n else z) (hs n)
      rw [h1]; rfl
    · have h : withOk ok z false = v := h
      subst h
      show _ = withOk ok (bif hs n then x n else z) (hs n)
      rw [h1]; rfl
  | (k, u) :: r, h => by
    rcases h with ⟨h1, h⟩ | ⟨h1, h⟩
    · have h : withOk ok u true = v := h
      subst h
      simp only [imH, imV, h1, Bool.true_or, cond_true]
    · rw [lookI_ok h]
      simp only [imH, imV, h1, Bool.false_or, cond_false]
def lookupT (P : Program) (h : AH) (t : TypeId) (m k : AV) (ok : Bool) : Option (T AV) :=
  match P.underlying t, m, k with
  | some (.map key elem), .mp r, .int kk n => match P.underlying key, zeroV P elem, h.bs.get r with
    | some (.int _), some z, some (.imap kk' u hs x) => match decide (kk = kk') with
      | true => some (lookI n z ok hs x u)
      | false => none
    | _, _, _ => none
  | _, _, _ => none
def updateI (P : Program) (h : AH) (t : TypeId) (m k v : AV) : Option AH :=
  match P.underlying t, m, k with
  | some (.map key _), .mp r, .int kk n => match P.underlying key, h.bs.get r with
    | some (.int _), some (.imap kk' u hs x) => match decide (kk = kk') && idp (fun _ => false) v with
      | true => some ⟨Tr.set (.imap kk' ((n, v) :: u) hs x) h.bs r, h.next⟩
      | false => none
    | _, _ => none
  | _, _, _ => none
theorem lookupT_rel {ρ : Rho} {h : AH} (H : HRel ρ h w) {t : TypeId} {m k v : AV} {cm ck : Value} {ok : Bool} (hm : VR ρ m cm) (hk : VR ρ k ck) {tr : T AV} (hl : lookupT P h t m k ok = some tr) (hv : tr.Sel v) :
    ∃ c, (Instr.lookup t cm ck ok).run P w = .ok c w ∧ VR ρ v c := by
  unfold lookupT at hl
  split at hl
  · rename_i key elem r kk n hu
    split at hl
    · rename_i y z kk' u hs x hkd hz hg
      split at hl
      · rename_i hkk
        simp only [decide_eq_true_eq] at hkk
        subst hkk
        simp only [Option.some.injEq] at hl; subst hl
        rw [lookI_ok hv]
        obtain ⟨zv, hzr, hzv⟩ := zeroV_rel (P := P) (ρ := ρ) w hz
        have hck : ∀ b, (Instr.checkKey b 10000 key ck).run P w = .ok () w := fun b => run_checkKey w 9999 hkd (.inl ⟨_, rfl⟩) b ck
        obtain rfl := VR_int hk
        simp only [VR] at hm
        obtain ⟨cb, hb, rfl⟩ := hm
        obtain ⟨ces, clock, hh, hmr⟩ := H.blk r _ hg cb hb
        have hget : (getObj cb.blk).run P w = .ok (.map ces clock) w := by simp [getObj, Sem.run, hh]
        rcases hmr.find (y := y) n with ⟨h1, h2, _⟩ | ⟨h1, j, e, h2, _, _, h5⟩
        · rw [h1]
          refine ⟨_, ?_, withOk_rel hzv ok false⟩
          cases ok <;> simp [Instr.lookup, run_ul w hu, hget, hck, Instr.findKey, run_ul w hkd, h2, hzr]
        · rw [h1]
          refine ⟨_, ?_, withOk_rel (VR.ext (ρ := ρ.cold) (ρ' := ρ) ⟨fun _ _ q => (by cases q), fun _ _ q => q⟩ h5) ok true⟩
          cases ok <;> simp [Instr.lookup, run_ul w hu, hget, hck, Instr.findKey, run_ul w hkd, h2]
      · cases hl
    · cases hl
  · cases hl
theorem updateI_next {h h' : AH} {t : TypeId} {m k v : AV} (hl : updateI P h t m k v = some h') : h'.next = h.next := by
  unfold updateI at hl
  repeat' split at hl
  all_goals first
    | (cases hl; done)
    | (simp only [Option.some.injEq] at hl; subst hl; rfl)
theorem updateI_rel {N : Nat} {own : Own} {ρ : Rho} {h h' : AH} (H : HRel ρ h w) (hO : Owned N own ρ) {t : TypeId} {m k v : AV} {cm ck cv : Value} (hm : VR ρ m cm) (hk : VR ρ k ck) (hv : VR ρ v cv) (hl : updateI P h t m k v = some h') :
    ∃ w', (Instr.mapUpdate t cm ck cv).run P w = .ok () w' ∧ HRel ρ h' w' ∧ Keep N own w w' := by
  unfold updateI at hl
  split at hl
  · rename_i key elem r kk n hu
    split at hl
    · rename_i y kk' u hs x hkd hg
      split at hl
      · rename_i hkk
        simp only [Bool.and_eq_true, decide_eq_true_eq] at hkk
        obtain ⟨rfl, hi⟩ := hkk
        simp only [Option.some.injEq] at hl; subst hl
        have hck : ∀ b, (Instr.checkKey b 10000 key ck).run P w = .ok () w := fun b => run_checkKey w 9999 hkd (.inl ⟨_, rfl⟩) b ck
        obtain rfl := VR_int hk
        simp only [VR] at hm
        obtain ⟨cb, hb, rfl⟩ := hm
        obtain ⟨ces, clock, hh, hmr⟩ := H.blk r _ hg cb hb
        have hget : (getObj cb.blk).run P w = .ok (.map ces clock) w := by simp [getObj, Sem.run, hh]
        have hset : ∀ o, (setObj cb.blk o).run P w = .ok () { w with heap := w.heap.setIfInBounds cb.blk o } := by
          intro o; simp [setObj, Sem.run, hh]
        have hbd := H.bound r cb hb
        have h8 := H.ro r _ hg (by intro n f hh; cases hh)
        have done : ∀ (ces' : Array MapEntry) (k' : Nat), imapR ρ kk (imH ((n, v) :: u) hs) (imV ((n, v) :: u) x) ces'.toList →
            HRel ρ ⟨Tr.set (.imap kk ((n, v) :: u) hs x) h.bs r, h.next⟩ { w with heap := w.heap.setIfInBounds cb.blk (.map ces' k') } ∧ Keep N own w { w with heap := w.heap.setIfInBounds cb.blk (.map ces' k') } := by
          intro ces' k' hm'
          refine ⟨H.upd hb hg h8 (by simp) (fun k hk => by simp only []; rw [Array.getElem?_setIfInBounds_ne (by omega)]) ⟨ces', k', by simp only []; rw [Array.getElem?_setIfInBounds_self_of_lt hbd], hm'⟩, ⟨rfl, rfl, rfl, by simp, fun q hq ho => ?_⟩⟩
          simp only []
          rw [Array.getElem?_setIfInBounds_ne]
          rintro rfl
          rcases hO r cb h8 hb with h1 | h1
          · omega
          · exact ho h1
        rcases hmr.find (y := y) n with ⟨h1, h2, h3⟩ | ⟨h1, j, e, h2, h3, h4, h5⟩
        · obtain ⟨g1, g2⟩ := done (ces.push { key := .int kk n, val := cv, born := clock }) (clock + 1) (by simpa using hmr.push (b := clock) (VR.cool hi hv) h3)
          refine ⟨_, ?_, g1, g2⟩
          simp [Instr.mapUpdate, run_ul w hu, hget, hck, Instr.findKey, run_ul w hkd, h2, hset]
        · have e1 : ces[j]? = some e := by simpa using h3
          have e2 : Instr.sameBits 10000 e.key (.int kk n) = true := by rw [h4]; simp [Instr.sameBits]
          obtain ⟨g1, g2⟩ := done (ces.modify j fun e => { e with key := .int kk n, val := cv }) clock (by simpa using hmr.upd (VR.cool hi hv) h3 h4)
          refine ⟨_, ?_, g1, g2⟩
          simp [Instr.mapUpdate, run_ul w hu, hget, hck, Instr.findKey, run_ul w hkd, h2, e1, Instr.keyThatStays, e2, hset]
      · cases hl
    · cases hl
  · cases hl
end
end Go.EV
