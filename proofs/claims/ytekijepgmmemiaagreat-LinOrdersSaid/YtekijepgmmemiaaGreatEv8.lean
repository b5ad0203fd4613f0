/- Own text of this claim: an abstract machine over the given program form, and what follows from it. No condition. -/
import Derived.Test.YtekijepgmmemiaaGreatEv7
set_option linter.unusedVariables false
set_option linter.unusedSimpArgs false
set_option maxHeartbeats 1000000
namespace Go.EV
section
variable {P : Program} (w : World)

theorem Left.of_run {N n0 : Nat} {own : Own} {ρ : Rho} {h' : AH} {v : AV} {s : Sem Next} {s' : Sem Value} (hs : ∀ c w', s'.run P w = .ok c w' → s.run P w = .ok (.value c) w')
    (h : ∃ ρ' c w', s'.run P w = .ok c w' ∧ VR ρ' v c ∧ HRel ρ' h' w' ∧ Ext2 n0 ρ ρ' ∧ Keep N own w w' ∧ Owned N own ρ') : Left P N n0 own ρ h' v w s := by
  obtain ⟨ρ', c, w', h1, h2, h3, h4, h5, h6⟩ := h
  exact ⟨ρ', c, w', _, hs c w' h1, .inl rfl, h2, h3, h4, h5, h6⟩


theorem owned_alloc {N : Nat} {own : Own} {ρ : Rho} (hO : Owned N own ρ) (hN : N ≤ w.heap.size) (b n : Nat) : Owned N own (ρ.put b ⟨w.heap.size, 0, n, 0⟩) := hO.put (.inl hN)

/-- what a grown row is -/
theorem grow_rel {N : Nat} {own : Own} {ρ : Rho} {h : AH} (H : HRel ρ h w) (hO : Owned N own ρ) (hN : N ≤ w.heap.size) {L : Nat} {new : List AV} {n' : Nat} {z' : List AV} {t' : Tr AV} {old ncs : List Value} {zc : Array Value} {elem : TypeId}
    (hold : old.length = L) (hnv : VRs ρ new ncs) (hn' : n' = L + new.length)
    (hz : ∀ i v, rowGet n' z' t' i = some v → (i < L ∧ ∃ c, old[i]? = some c ∧ VR ρ v c) ∨ (L ≤ i ∧ new[i - L]? = some v)) {esz len n cap : Nat} (hzs : zc.size = esz) (hL : L = len * esz) (hnl : new.length = n * esz) (hcap : len + n ≤ cap) :
    ∃ ρ', VR ρ' (.sl h.next 0 (len + n) none esz) (.slice (some ⟨w.heap.size, 0, none⟩) (len + n) cap) ∧
      HRel ρ' (h.new (.row n' z' t')) (w.drew.alloc (.cells (old.toArray ++ ncs.toArray ++ Builtin.zeroCells zc (cap - (len + n))) elem)) ∧ Ext2 h.next ρ ρ' ∧
      Keep N own w (w.drew.alloc (.cells (old.toArray ++ ncs.toArray ++ Builtin.zeroCells zc (cap - (len + n))) elem)) ∧ Owned N own ρ' := by
  have hncl := VRs.length hnv
  have hsz : (old.toArray ++ ncs.toArray ++ Builtin.zeroCells zc (cap - (len + n))).size = cap * esz := by
    simp [zeroCells_size, hzs, hold, hncl, hL, hnl]
    rw [← Nat.add_mul, ← Nat.add_mul]; congr 1; omega
  refine ⟨_, ?_, H.drew.newRow n' z' t' _ elem ?_ ?_, Rho.put_ext2 (H.fresh _ (Nat.le_refl _)), (Keep.drew w).trans (Keep.alloc w.drew _ hN), hO.put (.inl hN)⟩
  · simp only [VR]
    refine ⟨_, cap, Rho.put_same, by simp, hcap, ?_, by simp⟩
    rw [hsz]; simp
  · rw [hsz, hn', hL, hnl, ← Nat.add_mul]; exact Nat.mul_le_mul_right _ hcap
  · intro i v hi
    have hlt := rowGet_lt hi
    rcases hz i v hi with ⟨h1, c, h2, h3⟩ | ⟨h1, h2⟩
    · refine ⟨c, ?_, h3⟩
      rw [Array.append_assoc, Array.getElem?_append_left (by simp; omega)]
      simpa using h2
    · obtain ⟨c, h3, h4⟩ := VRs.get hnv h2
      have hlt2 : i - L < ncs.length := (List.getElem?_eq_some_iff.mp h3).1
      refine ⟨c, ?_, h4⟩
      rw [Array.getElem?_append_left (by simp; omega), Array.getElem?_append_right (by simp; omega)]
      simp [hold]; simpa using h3

theorem raw_load {g o len k esz : Nat} {arr : Array Value} {elem : TypeId} (hg : w.heap[g]? = some (.cells arr elem (0, 0))) (hl : o + len * esz ≤ arr.size) :
    ∀ w' : World, w'.heap = w.heap → (Builtin.firstCells esz len (.slice (some ⟨g, o, none⟩) len k)).run P w' = .ok ((arr.toList.drop o).take (len * esz)).toArray w' := by
  intro w' hw'
  have hlen : ((arr.toList.drop o).take (len * esz)).length = len * esz := by simp; omega
  have := run_loadCells_list (P := P) w' ⟨g, o, none⟩ ((arr.toList.drop o).take (len * esz)) (fun j v hj => by
    rw [List.getElem?_take] at hj
    split at hj
    · rw [List.getElem?_drop] at hj
      rw [add_addr]
      simpa [World.cell?, hw', hg] using hj
    · cases hj)
  rw [hlen] at this
  simpa [Builtin.firstCells] using this

theorem ble_false {a b : Nat} (h : Nat.ble a b = false) : b < a := by
  rcases Nat.lt_or_ge b a with h1 | h1
  · exact h1
  · have : Nat.ble a b = true := by simpa using h1
    rw [this] at h; cases h

theorem append_rel {N : Nat} {own : Own} {ρ : Rho} {h h' : AH} (H : HRel ρ h w) (hO : Owned N own ρ) (hN : N ≤ w.heap.size) {t t2 : TypeId} {s x v : AV} {cs cx : Value} (hs : VR ρ s cs) (hx : VR ρ x cx)
    (ha : appendV P h t t2 s x = some (v, h')) (ty : TypeId) :
    ∃ ρ' c w', (Builtin.append_ #[t, t2] ty #[cs, cx]).run P w = .ok c w' ∧ VR ρ' v c ∧ HRel ρ' h' w' ∧ Ext2 h.next ρ ρ' ∧ Keep N own w w' ∧ Owned N own ρ' := by
  unfold appendV at ha
  simp only [lenF_eq] at ha
  split at ha
  · rename_i elem d2 hu hu2
    split at ha
    · rename_i i z sl n hi hz hsl hn
      split at ha
      · rename_i new hc hsrc
        simp only [Bool.and_eq_true, Tr.beq_true, Nat.ble_eq] at hc
        obtain ⟨⟨⟨c1, c2⟩, c3⟩, c4⟩ := hc
        have c1' : 0 < i.size := by simp [Nat.blt] at c1; omega
        have c2' : 0 < i.bytes := by simp [Nat.blt] at c2; omega
        have hzz : ∃ zv, i.zero = some zv ∧ zv.cells.size = i.size := by
          unfold zeroOf at hz
          rw [hi] at hz
          simp only at hz
          split at hz
          · rename_i zv hzv
            have := VRs.length (cellsOfValue_rel (ρ := ρ) hz)
            exact ⟨zv, hzv, by simp at this; omega⟩
          · simp at hz
        obtain ⟨zv, hzv, hzs⟩ := hzz
        obtain ⟨ncs, hnr, hnv⟩ := run_firstCells (P := P) w H hsrc hx
        split at ha
        · rename_i hc2
          simp only [Bool.and_eq_true, Tr.beq_true] at hc2
          obtain ⟨hnl, hna⟩ := hc2
          have hncl := VRs.length hnv
          have hlenr : ∀ w', (Builtin.lenOf cx).run P w' = .ok n w' := fun w' => (lenA_rel w' hn hx).1
          have hone := hnv.of_all hna
          split at ha
          · rename_i b off len cap esz
            simp only [lenA, Option.some.injEq] at hsl; subst hsl
            simp only [VR] at hs
            obtain ⟨cb, k, hb, rfl, hlk, htot, hcap⟩ := hs
            split at ha
            · rename_i c he
              rw [Tr.beq_true] at he; subst he
              have hk := hcap c rfl; subst hk
              split at ha
              · rename_i hle
                simp only [Nat.ble_eq] at hle
                split at ha
                · rename_i h2 hput
                  simp at ha; obtain ⟨rfl, rfl⟩ := ha
                  obtain ⟨w', r1, r2, r3⟩ := H.put (P := P) hO hput hb hnv hone
                  refine ⟨ρ, _, w', run_room w hu hu2 hi hlenr (hnr w rfl) (by rw [Nat.add_assoc]; exact r1) hle ty, ?_, r2, Ext2.refl _ ρ, r3, hO⟩
                  simp only [VR]
                  exact ⟨cb, k, hb, rfl, hle, htot, hcap⟩
                · simp at ha
              · rename_i hle
                have hle' : k < len + n := by
                  rcases Nat.lt_or_ge k (len + n) with h1 | h1
                  · exact h1
                  · have : Nat.ble (len + n) k = true := by simpa using h1
                    rw [this] at hle; cases hle
                split at ha
                · rename_i r hj
                  simp at ha; obtain ⟨rfl, rfl⟩ := ha
                  obtain ⟨m, z0, t0, z', t', hg, rfl, hsp⟩ := joinRow_spec hj
                  obtain ⟨arr, el, e1, e2, e3, e4⟩ := H.rows b m z0 t0 hg cb hb
                  have hfit : cb.base + off + len * i.size ≤ arr.size := by
                    have : len * i.size ≤ k * i.size := Nat.mul_le_mul_right _ hlk
                    omega
                  have hld := raw_load (P := P) w (len := len) (k := k) (esz := i.size) e1 hfit
                  obtain ⟨cap', arr', g1, rfl, g2⟩ := run_grow w hu hu2 hi hzv hlenr hld hnr hle' c2' c4 ty
                  obtain ⟨ρ', q1, q2, q3, q4, q5⟩ := grow_rel (elem := elem) w H hO hN (old := (arr.toList.drop (cb.base + off)).take (len * i.size)) (by simp; omega) hnv rfl (fun j u hju => by
                    rcases hsp j u hju with ⟨h1, h2⟩ | h1
                    · obtain ⟨c, h3, h4⟩ := e4 _ _ h2
                      refine .inl ⟨h1, c, ?_, h4⟩
                      rw [List.getElem?_take, if_pos h1, List.getElem?_drop, Nat.add_assoc]
                      simpa using h3
                    · exact .inr h1) hzs rfl hnl g1
                  exact ⟨ρ', _, _, g2, q1, q2, q3, q4, q5⟩
                · simp at ha
            · rename_i he
              rw [Tr.beq_true] at he; subst he
              split at ha
              · rename_i r hj
                simp at ha; obtain ⟨rfl, rfl⟩ := ha
                obtain ⟨m, z0, t0, z', t', hg, rfl, hsp⟩ := joinRow_spec hj
                obtain ⟨arr, el, e1, e2, e3, e4⟩ := H.rows b m z0 t0 hg cb hb
                by_cases hle : len + n ≤ k
                · have hfit : cb.base + off + len * i.size + n * i.size ≤ arr.size := by
                    have : (len + n) * i.size ≤ k * i.size := Nat.mul_le_mul_right _ hle
                    rw [Nat.add_mul] at this; omega
                  have hst := run_storeCells_at P cb.blk (cb.base + off + len * i.size) el ncs 0 arr w e1 (by omega) hone
                  have hrun := run_room (ty := ty) w hu hu2 hi hlenr (hnr w rfl) hst hle
                  refine ⟨_, _, _, hrun, ?_, HRel.moveRow w H hg hb e1 (off := off) (n' := len * i.size + new.length) (z' := z') (t' := t') ?_ ?_ ?_, Rho.put_ext2 (H.fresh _ (Nat.le_refl _)), Keep.setRow w _ (hO b cb (H.ro b _ hg (by intro n f hh; cases hh)) hb), hO.put (hO b cb (H.ro b _ hg (by intro n f hh; cases hh)) hb)⟩
                  · simp only [VR]
                    exact ⟨_, k, Rho.put_same, by simp, hle, by simp; omega, by simp⟩
                  · simp; omega
                  · rw [hnl]; omega
                  · intro j u hju
                    rw [List.getElem?_toArray, Nat.add_zero, seg_get (by simp; omega)]
                    rcases hsp j u hju with ⟨h1, h2⟩ | ⟨h1, h2⟩
                    · obtain ⟨c, h3, h4⟩ := e4 _ _ h2
                      rw [if_neg (by omega)]
                      exact ⟨c, by rw [Nat.add_assoc]; simpa using h3, h4⟩
                    · obtain ⟨c, h3, h4⟩ := VRs.get hnv h2
                      have hlt2 : j - len * i.size < ncs.length := (List.getElem?_eq_some_iff.mp h3).1
                      rw [if_pos (by omega)]
                      exact ⟨c, by rw [show cb.base + off + j - (cb.base + off + len * i.size) = j - len * i.size by omega]; exact h3, h4⟩
                · have hle' : k < len + n := by omega
                  have hfit : cb.base + off + len * i.size ≤ arr.size := by
                    have : len * i.size ≤ k * i.size := Nat.mul_le_mul_right _ hlk
                    omega
                  have hld := raw_load (P := P) w (len := len) (k := k) (esz := i.size) e1 hfit
                  obtain ⟨cap', arr', g1, rfl, g2⟩ := run_grow w hu hu2 hi hzv hlenr hld hnr hle' c2' c4 ty
                  obtain ⟨ρ', q1, q2, q3, q4, q5⟩ := grow_rel (elem := elem) w (HRel.del w H b) hO hN (old := (arr.toList.drop (cb.base + off)).take (len * i.size)) (by simp; omega) hnv rfl (fun j u hju => by
                    rcases hsp j u hju with ⟨h1, h2⟩ | h1
                    · obtain ⟨c, h3, h4⟩ := e4 _ _ h2
                      refine .inl ⟨h1, c, ?_, h4⟩
                      rw [List.getElem?_take, if_pos h1, List.getElem?_drop, Nat.add_assoc]
                      simpa using h3
                    · exact .inr h1) hzs rfl hnl g1
                  exact ⟨ρ', _, _, g2, q1, q2, q3, q4, q5⟩
              · simp at ha
            · simp at ha
          · simp only [VR] at hs; subst hs
            simp only [lenA, Option.some.injEq] at hsl; subst hsl
            split at ha
            · simp at ha; obtain ⟨rfl, rfl⟩ := ha
              have : ncs = [] := by
                rw [show new.length = 0 by simpa using hnl] at hncl
                exact List.length_eq_zero_iff.mp hncl
              subst this
              exact ⟨ρ, _, w, run_none w hu hu2 hi hlenr (by simpa using hnr w rfl) ty, by simp only [VR], H, Ext2.refl _ ρ, Keep.refl _ _ w, hO⟩
            · rename_i n
              simp at ha; obtain ⟨rfl, rfl⟩ := ha
              obtain ⟨cap', arr', g1, rfl, g2⟩ := run_grow (a := none) (sl := 0) (k := 0) (old := []) w hu hu2 hi hzv hlenr (fun w' _ => by simp [Builtin.firstCells]) hnr (by omega) c2' c4 ty
              obtain ⟨ρ', q1, q2, q3, q4, q5⟩ := grow_rel (elem := elem) (L := 0) (n' := new.length) (z' := new) (t' := .nil) (len := 0) w H hO hN (old := []) rfl hnv (by simp) (fun j u hju => .inr ⟨Nat.zero_le _, by simpa using rowGet_nil hju⟩) hzs (by simp) hnl g1
              exact ⟨ρ', _, _, g2, by simpa using q1, q2, q3, q4, q5⟩
          · simp only [VR] at hs
            obtain ⟨a, k, rfl, hk⟩ := hs
            have := hk trivial; subst this
            simp only [lenA, Option.some.injEq] at hsl; subst hsl
            split at ha
            · simp at ha; obtain ⟨rfl, rfl⟩ := ha
              have : ncs = [] := by
                rw [show new.length = 0 by simpa using hnl] at hncl
                exact List.length_eq_zero_iff.mp hncl
              subst this
              exact ⟨ρ, _, w, run_none w hu hu2 hi hlenr (by simpa using hnr w rfl) ty, by simp only [VR]; exact ⟨a, 0, rfl, fun _ => rfl⟩, H, Ext2.refl _ ρ, Keep.refl _ _ w, hO⟩
            · rename_i n
              simp at ha; obtain ⟨rfl, rfl⟩ := ha
              obtain ⟨cap', arr', g1, rfl, g2⟩ := run_grow (a := some a) (sl := 0) (k := 0) (old := []) w hu hu2 hi hzv hlenr (fun w' _ => by simp [Builtin.firstCells, loadCells, loadCellsFrom]) hnr (by omega) c2' c4 ty
              obtain ⟨ρ', q1, q2, q3, q4, q5⟩ := grow_rel (elem := elem) (L := 0) (n' := new.length) (z' := new) (t' := .nil) (len := 0) w H hO hN (old := []) rfl hnv (by simp) (fun j u hju => .inr ⟨Nat.zero_le _, by simpa using rowGet_nil hju⟩) hzs (by simp) hnl g1
              exact ⟨ρ', _, _, g2, by simpa using q1, q2, q3, q4, q5⟩
          · simp at ha
        · simp at ha
      · simp at ha
    · simp at ha
  · simp at ha
end
end Go.EV
