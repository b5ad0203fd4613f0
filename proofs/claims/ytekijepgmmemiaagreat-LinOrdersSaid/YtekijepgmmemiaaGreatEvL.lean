/- Own text of this claim: an abstract machine over the given program form, and what follows from it. No condition. -/
import Derived.Test.YtekijepgmmemiaaGreatEvK
set_option linter.unusedVariables false
set_option linter.unusedSimpArgs false
set_option maxHeartbeats 1000000
namespace Go.EV
section
variable {P : Program} {N : Nat} {own : Own}

theorem setMany_rel {ρ : Rho} {n : Nat} : ∀ {l : List (Nat × AV)} {l' : List (Nat × Value)} {t ts : Tr AV} {tmps : Array Value}, setMany n t l = some ts → tmps.size = n → (∀ u v, t.get u = some v → ∃ c, tmps[u]? = some c ∧ VR ρ v c) →
    l.map Prod.fst = l'.map Prod.fst → VRs ρ (l.map Prod.snd) (l'.map Prod.snd) →
    (l'.foldl (fun tmps (p : Nat × Value) => tmps.setIfInBounds p.1 p.2) tmps).size = n ∧ ∀ u v, ts.get u = some v → ∃ c, (l'.foldl (fun tmps (p : Nat × Value) => tmps.setIfInBounds p.1 p.2) tmps)[u]? = some c ∧ VR ρ v c
  | [], l', t, ts, tmps, h, hs, ht, hf, hv => by
    simp [setMany] at h; subst h
    have : l' = [] := by simpa using hf.symm
    subst this
    exact ⟨hs, ht⟩
  | (d, v) :: r, [], t, ts, tmps, h, hs, ht, hf, hv => by simp at hf
  | (d, v) :: r, (d', c) :: r', t, ts, tmps, h, hs, ht, hf, hv => by
    simp only [List.map_cons, List.cons.injEq] at hf
    obtain ⟨hd, hf⟩ := hf
    have hd : d = d' := hd
    subst hd
    simp only [List.map_cons, VRs, List.cons.injEq] at hv
    obtain ⟨c1, cs1, ⟨rfl, rfl⟩, h2, h3⟩ := hv
    simp only [setMany] at h
    split at h
    · rename_i hlt
      have := setDst_rel (ρ := ρ) (n := n) (fr := t) (ts := Tr.set v t d) (tmps := tmps) hs ht (dst := some d) h2 (by simp [setDst, hlt])
      exact setMany_rel (l := r) (l' := r') h this.1 this.2 hf h3
    · cases h

/-- a call of what goes on with a loop -/
theorem yield_rel {ρ : Rho} {h : AH} {w : World} (H : HRel ρ h w) {f : Operand → Option AV} {e : Operand → Value} (hf : EvR ρ f e) {c : Call} {b : Nat} {as : List AV} (hc : yieldA f c = some (b, as)) {o : Oper} (ho : o.op = .call c) {a : AFr} (ha : roundA h b as = some a) :
    ∃ cb r ts, ρ b = some cb ∧ w.heap[cb.blk]? = some (.loop r) ∧ (execOp e o).run P w = .ok (.round cb.blk r.fn ts r.assign r.body) w ∧ FRp ρ a (Frame.round cb.blk r.fn ts r.assign r.body .normal) := by
  unfold yieldA at hc
  split at hc
  · rename_i fo hco
    split at hc
    · rename_i b' as' hfo has
      simp at hc; obtain ⟨rfl, rfl⟩ := hc
      have hr := hf _ _ hfo
      simp only [VR] at hr
      obtain ⟨cb, hb, he⟩ := hr
      have h3 := allOf_rel (e := e) (fun o v => hf o v) has
      unfold roundA at ha
      split at ha
      · rename_i x hg
        split at ha
        · rename_i ts hlen hset
          simp at ha; subst ha
          obtain ⟨r, hw, L⟩ := H.blk _ _ hg cb hb
          rw [Tr.beq_true] at hlen
          have hl2 : (c.args.toList.map e).length = as'.length := VRs.length h3
          have hrun : (execOp e o).run P w = .ok (.round cb.blk r.fn ((r.params.zip (c.args.map e)).foldl (fun tmps (t, a) => tmps.setIfInBounds t a) r.tmps) r.assign r.body) w := by
            have hsz : (#[] ++ c.args.map e).size = r.params.size := by
              rw [L.params, ← hlen, ← hl2]; simp
            simp only [execOp, ho, resolve, hco, he, Deferred.ofValue, Sem.run_bind, Sem.run_pure, Result.andThen_ok, invoke, Instr.yield, run_getLoop hw, hsz]
            simp
          have hz : x.params.toList.length = as'.length := by simpa using hlen.symm
          have hm := setMany_rel (ρ := ρ) (l := x.params.toList.zip as') (l' := x.params.toList.zip (c.args.toList.map e)) hset L.size L.tmps
            (by rw [List.map_fst_zip (by omega), List.map_fst_zip (by omega)])
            (by rw [List.map_snd_zip (by omega), List.map_snd_zip (by omega)]; exact h3)
          have hts : (r.params.zip (c.args.map e)).foldl (fun tmps (t, a) => tmps.setIfInBounds t a) r.tmps = (x.params.toList.zip (c.args.toList.map e)).foldl (fun tmps (p : Nat × Value) => tmps.setIfInBounds p.1 p.2) r.tmps := by
            rw [← Array.foldl_toList, Array.toList_zip, L.params, Array.toList_map]
          refine ⟨cb, r, _, hb, hw, hrun, ?_⟩
          rw [hts]
          refine ⟨L.fn, rfl, rfl, rfl, ⟨cb, hb, rfl⟩, hm.1, hm.2, ?_⟩
          show All2 (IR ρ) _ [.code r.assign, .beginRound, .code r.body]
          exact .cons L.assign (.cons trivial (.cons L.body .nil))
        · cases ha
      · cases ha
    · cases hc
  · cases hc
end
end Go.EV
