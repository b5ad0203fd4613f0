/- Own text of this claim: an abstract machine over the given program form, and what follows from it. No condition. -/
import Derived.Test.YtekijepgmmemiaaGreatEv5
set_option linter.unusedVariables false
set_option linter.unusedSimpArgs false
set_option maxHeartbeats 1000000
namespace Go.EV
section
variable {P : Program} (w : World)

/-- what an operation leaves -/
def Left (P : Program) (N n0 : Nat) (own : Own) (ρ : Rho) (h' : AH) (v : AV) (w : World) (s : Sem Next) : Prop :=
  ∃ ρ' c w' nx, s.run P w = .ok nx w' ∧ (nx = .value c ∨ (nx = .skip ∧ c = undef)) ∧ VR ρ' v c ∧ HRel ρ' h' w' ∧ Ext2 n0 ρ ρ' ∧ Keep N own w w' ∧ Owned N own ρ'

theorem run_loadV {ρ : Rho} {h : AH} (H : HRel ρ h w) {t : TypeId} {b off : Nat} {v : AV} (hl : loadV P h t b off = some v) {cb : Cb} (hb : ρ b = some cb) :
    ∃ c, (loadVar t ⟨cb.blk, cb.base + off, none⟩).run P w = .ok c w ∧ VR ρ v c := by
  unfold loadV at hl
  split at hl
  · rename_i ha
    split at hl
    · rename_i n hn
      split at hl
      · rename_i cs hcs
        simp at hl; subst hl
        obtain ⟨l, h1, h2⟩ := H.loadCells (P := P) hcs hb
        refine ⟨.agg l.toArray, ?_, by simp only [VR]; exact ⟨_, rfl, by simpa using h2⟩⟩
        simp [loadVar, run_ag w ha, run_sz w hn, h1]
      · simp at hl
    · simp at hl
  · rename_i ha
    obtain ⟨c, h1, h2⟩ := H.cell hl hb
    exact ⟨c, by simp [loadVar, run_ag w ha, h1], h2⟩
  · simp at hl

theorem run_loadP {ρ : Rho} {blk off : Nat} {arr : Array Value} {elem : TypeId} {fz : _} (hw : w.heap[blk]? = some (.cells arr elem fz)) {cs : List AV} (hl : off + cs.length ≤ arr.size) (hv : VRs ρ cs (cellsAt arr off cs.length))
    {t : TypeId} {k : Nat} {v : AV} (hp : EV.part P t cs k = some v) : ∃ c, (loadVar t ⟨blk, off + k, none⟩).run P w = .ok c w ∧ VR ρ v c := by
  unfold EV.part at hp
  split at hp
  · rename_i hag
    split at hp
    · rename_i n hn
      split at hp
      · rename_i hle
        simp at hp; subst hp
        simp only [Nat.ble_eq] at hle
        have hl2 : (cellsAt arr (off + k) n).length = n := cellsAt_len (by omega)
        have hr := run_loadCells_list (P := P) w ⟨blk, off + k, none⟩ (cellsAt arr (off + k) n) (fun j u hj => by
          have hj' : j < n := by
            have := (List.getElem?_eq_some_iff.mp hj).1
            omega
          rw [cellsAt_get hj'] at hj
          rw [add_addr]
          simpa [World.cell?, hw] using hj)
        rw [hl2] at hr
        refine ⟨.agg (cellsAt arr (off + k) n).toArray, by simp [loadVar, run_ag w hag, run_sz w hn, hr], ?_⟩
        simp only [VR]
        refine ⟨_, rfl, ?_⟩
        have := (hv.drop k).take n
        rw [cellsAt_sub hle] at this
        simpa using this
      · simp at hp
    · simp at hp
  · rename_i hag
    obtain ⟨c, h1, h2⟩ := VRs.get hv hp
    have hk : k < cs.length := (List.getElem?_eq_some_iff.mp hp).1
    rw [cellsAt_get hk] at h1
    refine ⟨c, ?_, h2⟩
    have : w.cell? ⟨blk, off + k, none⟩ = some c := by simp [World.cell?, hw, h1]
    simp [loadVar, run_ag w hag, this]
  · simp at hp

/-- a load, of whatever a pointer leads to -/
theorem run_loadA {ρ : Rho} {h : AH} (H : HRel ρ h w) {t : TypeId} {p v : AV} (hl : loadA P h t p = some v) {cp : Value} (hp : VR ρ p cp) :
    ∃ a c, cp = .pointer (some a) ∧ (loadVar t a).run P w = .ok c w ∧ VR ρ v c := by
  unfold loadA at hl
  split at hl
  · simp only [VR] at hp
    obtain ⟨cb, hb, rfl⟩ := hp
    obtain ⟨c, h1, h2⟩ := run_loadV w H hl hb
    exact ⟨_, c, rfl, h1, h2⟩
  · simp only [VR] at hp
    obtain ⟨blk, off, arr, rfl, h1, h2, h3⟩ := hp
    obtain ⟨elem, fz, h4⟩ := H.frz _ _ h1
    obtain ⟨c, h5, h6⟩ := run_loadP w h4 h2 h3 hl
    exact ⟨_, c, rfl, h5, h6.ext (cold_ext ρ)⟩
  · rename_i b j k e
    split at hl
    · rename_i e' mm f hg
      split at hl
      · rename_i he
        rw [Tr.beq_true] at he; subst he
        simp only [VR] at hp
        obtain ⟨cb, hb, rfl, ht⟩ := hp
        obtain ⟨arr, elem, h1, h2, h2', _, h3⟩ := H.blk b _ hg cb hb
        have hv := (h3 j ht).1
        have hlen := VRs.length hv
        rw [Nat.add_mul] at ht
        rw [cellsAt_len (by omega)] at hlen
        obtain ⟨c, h5, h6⟩ := run_loadP w h1 (cs := f j) (off := cb.base + j * e) (by omega) (by rw [← hlen]; exact hv) hl
        exact ⟨_, c, rfl, h5, h6⟩
      · simp at hl
    · simp at hl
  · simp at hl

theorem load_soundA {ρ : Rho} {h : AH} (H : HRel ρ h w) {f : Operand → Option AV} {e : Operand → Value} (hf : EvR ρ f e) {o : Oper} {t : TypeId} {x : Operand} (ho : o.op = .load t x)
    {p v : AV} (hx : f x = some p) (hl : loadA P h t p = some v) :
    ∃ c, (execOp e o).run P w = .ok (.value c) w ∧ VR ρ v c := by
  obtain ⟨a, c, he, h1, h2⟩ := run_loadA w H hl (hf _ _ hx)
  refine ⟨c, ?_, h2⟩
  simp [execOp, ho, he, Instr.loadAt, Instr.sureAddr, h1]

theorem load_sound {ρ : Rho} {h : AH} (H : HRel ρ h w) {f : Operand → Option AV} {e : Operand → Value} (hf : EvR ρ f e) {o : Oper} {t : TypeId} {x : Operand} (ho : o.op = .load t x)
    {b off : Nat} {v : AV} (hx : f x = some (.ptr b off)) (hl : loadV P h t b off = some v) :
    ∃ c, (execOp e o).run P w = .ok (.value c) w ∧ VR ρ v c := by
  have hr := hf _ _ hx
  simp only [VR] at hr
  obtain ⟨cb, hb, he⟩ := hr
  obtain ⟨c, h1, h2⟩ := run_loadV w H hl hb
  refine ⟨c, ?_, h2⟩
  simp [execOp, ho, he, Instr.loadAt, Instr.sureAddr, h1]

theorem rowGet_nil {z : List AV} {i : Nat} {v : AV} (h : rowGet z.length z .nil i = some v) : z[i]? = some v := by
  have hlt := rowGet_lt h
  unfold rowGet at h
  rw [show Nat.blt i z.length = true by simp [Nat.blt]; omega] at h
  simpa [Tr.get, Nat.mod_eq_of_lt hlt] using h

theorem left_new {N : Nat} {own : Own} {ρ : Rho} {h : AH} (H : HRel ρ h w) (hO : Owned N own ρ) (hN : N ≤ w.heap.size) {s : Sem Next} {n : Nat} {z : List AV} {t : Tr AV} {arr : Array Value} {elem : TypeId} {v : AV} {c : Value}
    (hs : s.run P w = .ok (.value c) (w.alloc (.cells arr elem))) (hn : n ≤ arr.size) (hz : ∀ i v, rowGet n z t i = some v → ∃ c, arr[i]? = some c ∧ VR ρ v c)
    (hv : VR (ρ.put h.next ⟨w.heap.size, 0, arr.size, 0⟩) v c) : Left P N h.next own ρ (h.new (.row n z t)) v w s :=
  ⟨_, c, _, _, hs, .inl rfl, hv, H.newRow n z t arr elem hn hz, Rho.put_ext2 (H.fresh _ (Nat.le_refl _)), Keep.alloc w _ hN, hO.put (.inl hN)⟩

theorem map_range_rep (zc : Array Value) (k : Nat) (hk : zc.size = k) (hk0 : 0 < k) : ∀ n : Nat, (List.range (n * k)).map (fun i => zc[i % zc.size]!) = (List.replicate n zc.toList).flatten
  | 0 => by simp
  | n + 1 => by
    rw [show (n + 1) * k = k + n * k by rw [Nat.add_mul]; omega, List.range_add, List.map_append, List.replicate_succ, List.flatten_cons, ← map_range_rep zc k hk hk0 n]
    congr 1
    · apply List.ext_getElem?
      intro i
      by_cases hi : i < k
      · have h1 : (List.range k)[i]? = some i := by rw [List.getElem?_range hi]
        have h2 : i < zc.size := by omega
        rw [List.getElem?_map, h1, Option.map_some, hk, Nat.mod_eq_of_lt hi, getElem!_pos zc i h2]
        simp [h2]
      · rw [List.getElem?_eq_none (by simp; omega), List.getElem?_eq_none (by simp; omega)]
    · rw [List.map_map]
      apply List.map_congr_left
      intro i _
      simp [hk]

theorem fillA_length {place : Nat → Option (Nat × Nat)} : ∀ {l : List (Nat × AV)} {cs cs' : List AV}, fillA place cs l = some cs' → cs'.length = cs.length
  | [], cs, cs', h => by simp [fillA] at h; subst h; rfl
  | (i, v) :: l, cs, cs', h => by
    simp only [fillA] at h
    split at h
    · simp at h
    · split at h
      · rename_i hc
        simp only [Bool.and_eq_true, Tr.beq_true, Nat.ble_eq] at hc
        rw [fillA_length h]
        simp [splice]; omega
      · simp at h

theorem VRs.replicate {ρ : Rho} {z : List AV} {l : List Value} (h : VRs ρ z l) : ∀ n, VRs ρ (List.replicate n z).flatten (List.replicate n l).flatten
  | 0 => by simp [VRs]
  | n + 1 => by simp only [List.replicate_succ, List.flatten_cons]; exact VRs.append h (VRs.replicate h n)

/-- an operation that makes a block, whatever name the block has -/
theorem new_run {ρ : Rho} {nx : Nat} {f : Operand → Option AV} {e : Operand → Value} (hf : EvR ρ f e) {o : Oper} {b : ABlk} {v : AV} (hn : newOp P f nx o.op = some (b, v)) :
    (∃ n z arr elem c, b = .row n z .nil ∧ (execOp e o).run P w = .ok (.value c) (w.alloc (.cells arr elem)) ∧ n ≤ arr.size ∧ (∀ i v, rowGet n z .nil i = some v → ∃ c, arr[i]? = some c ∧ VR ρ v c) ∧
      ∀ ρ' : Rho, ρ' nx = some ⟨w.heap.size, 0, arr.size, 0⟩ → VR ρ' v c) ∨
    (b = .map [] 0 ∧ ∃ c, (execOp e o).run P w = .ok (.value c) (w.alloc (.map #[] 0)) ∧ ∀ ρ' : Rho, ρ' nx = some ⟨w.heap.size, 0, 0, 0⟩ → VR ρ' v c) := by
  obtain ⟨dst, op, ty, pos, after, guard⟩ := o
  simp only at hn
  unfold newOp at hn
  split at hn
  · rename_i t
    split at hn
    · rename_i z hz
      simp at hn; obtain ⟨rfl, rfl⟩ := hn
      obtain ⟨zv, hr, hv⟩ := run_zero (P := P) w hz (ρ := ρ)
      have hl := VRs.length hv
      refine .inl ⟨_, _, zv.cells, t, .pointer (some ⟨w.heap.size, 0, none⟩), rfl, ?_, (by simp at hl; omega), ?_, ?_⟩
      · simp [execOp, Instr.alloc, hr, newVar, Go.newRow]
      · intro i u hi
        obtain ⟨c, hc, hvc⟩ := VRs.get hv (rowGet_nil hi)
        exact ⟨c, by simpa using hc, hvc⟩
      · intro ρ' hρ; simp only [VR]
        exact ⟨_, hρ, by simp⟩
    · simp at hn
  · rename_i t x
    split at hn
    · rename_i a ha
      split at hn
      · rename_i hna
        simp at hn; obtain ⟨rfl, rfl⟩ := hn
        have hv := (hf _ _ ha).cells
        have hl := VRs.length hv
        refine .inl ⟨_, _, (e x).cells, t, .pointer (some ⟨w.heap.size, 0, none⟩), rfl, ?_, (by simp at hl; omega), ?_, ?_⟩
        · simp [execOp, Instr.box, newVar, Go.newRow]
        · intro i u hi
          obtain ⟨c, hc, hvc⟩ := VRs.get hv (rowGet_nil hi)
          exact ⟨c, by simpa using hc, hvc⟩
        · intro ρ' hρ; simp only [VR]
          exact ⟨_, hρ, by simp⟩
      · simp at hn
    · simp at hn
  · rename_i t len ps
    split at hn
    · rename_i elem l hu hl
      split at hn
      · rename_i sz z hsz hz
        split at hn
        · rename_i cs hcs
          split at hn
          · rename_i hc
            simp at hn; obtain ⟨rfl, rfl⟩ := hn
            simp only [Bool.and_eq_true, Nat.ble_eq, Tr.beq_true] at hc
            replace hsz : EV.sizeOf P elem = some (sz + 1) := hsz
            obtain ⟨zv, hr, hv⟩ := run_zero (P := P) w hz (ρ := ρ)
            have hlz := VRs.length hv
            simp at hlz
            have hzs : zv.cells.size = sz + 1 := by omega
            have hbase : VRs ρ (List.replicate len z).flatten ((Array.range (len * (sz + 1))).map (zv.cells[· % zv.cells.size]!)).toList := by
              rw [Array.toList_map, Array.toList_range, map_range_rep zv.cells (sz + 1) hzs (by omega) len]
              exact hv.replicate len
            obtain ⟨arr', g1, g2⟩ := fill_rel hcs hbase (partsOf_rel hf hl)
            have hl' := VRs.length g2
            have hcl : cs.length = len * (sz + 1) := by
              rw [fillA_length hcs]; simp [hc.2]
            simp at hl'
            refine .inl ⟨_, _, arr', elem, .slice (some ⟨w.heap.size, 0, none⟩) len len, rfl, ?_, (by omega), ?_, ?_⟩
            · simp only [execOp, Instr.buildSlice, Sem.run_bind, run_ul w hu, run_sz w hsz, Result.andThen_ok, Sem.run_ite]
              rw [if_neg (by omega)]
              by_cases h0 : len * (sz + 1) = 0
              · have e0 : ((Array.range (len * (sz + 1))).map fun x => (#[] : Array Value)[x % (#[] : Array Value).size]!) = ((Array.range (len * (sz + 1))).map (zv.cells[· % zv.cells.size]!)) := by
                  rw [h0]; simp
                simp only [if_pos h0, Sem.run_pure, Result.andThen_ok, e0, Array.toList_map, g1]
                simp [Go.newRow]
              · simp only [if_neg h0, Sem.run_bind, hr, Sem.run_pure, Result.andThen_ok, Array.toList_map, g1]
                simp [Go.newRow]
            · intro i u hi
              rw [← hcl] at hi
              obtain ⟨c, hc, hvc⟩ := VRs.get g2 (rowGet_nil hi)
              exact ⟨c, by simpa using hc, hvc⟩
            · intro ρ' hρ; simp only [VR]
              exact ⟨_, len, hρ, by simp, Nat.le_refl _, by simp; omega, by simp⟩
          · simp at hn
        · simp at hn
      · simp at hn
    · simp at hn
  · rename_i t l c
    split at hn
    · rename_i elem k n k' m hu hlv hcv
      split at hn
      · rename_i i z hi hz
        split at hn
        · rename_i hc
          simp at hn; obtain ⟨rfl, rfl⟩ := hn
          simp only [Bool.and_eq_true, Nat.ble_eq, Tr.beq_true] at hc
          obtain ⟨⟨⟨⟨c1, c2⟩, c3⟩, c4⟩, c5⟩ := hc
          have c5' : 0 < i.size := by simp [Nat.blt] at c5; omega
          have hzz : ∃ zv, i.zero = some zv ∧ VRs ρ z zv.cells.toList := by
            unfold zeroOf at hz
            rw [hi] at hz
            simp only at hz
            split at hz
            · rename_i zv hzv; exact ⟨zv, hzv, cellsOfValue_rel hz⟩
            · simp at hz
          obtain ⟨zv, hzv, hv⟩ := hzz
          have hlz := VRs.length hv
          simp at hlz
          have e1 := VR_int (hf _ _ hlv)
          have e2 := VR_int (hf _ _ hcv)
          have hb : (i.bytes : Int) * (m : Int) ≤ 281474976710656 := by
            have : ((i.bytes * m : Nat) : Int) ≤ 2 ^ 47 := by exact_mod_cast c2
            rw [Int.natCast_mul] at this; omega
          have hrun := run_make (P := P) w t elem i zv hu hi hzv k k' (n : Int) (m : Int) (by omega) (by omega) hb (by omega)
          simp only [Int.toNat_natCast] at hrun
          refine .inl ⟨_, _, madeCells zv.cells (m * i.size), elem, .slice (some ⟨w.heap.size, 0, none⟩) n m, rfl, ?_, (by rw [size_madeCells]; exact Nat.le_refl _), ?_, ?_⟩
          · simp only [execOp, e1, e2, Sem.run_bind]
            rw [show (Int.ofNat n) = (n : Int) from rfl, show (Int.ofNat m) = (m : Int) from rfl, hrun]; rfl
          · intro j u hj
            have hlt := rowGet_lt hj
            unfold rowGet at hj
            rw [show Nat.blt j (m * i.size) = true by simp [Nat.blt]; omega] at hj
            simp only [Tr.get] at hj
            obtain ⟨c, hc, hvc⟩ := VRs.get hv hj
            refine ⟨c, ?_, hvc⟩
            have hmod : j % zv.cells.size < zv.cells.size := Nat.mod_lt _ (by omega)
            have hc' : zv.cells[j % zv.cells.size]? = some c := by
              rw [hlz]; simpa using hc
            rw [Array.getElem?_eq_getElem hmod] at hc'
            unfold madeCells
            rw [Array.getElem?_map, Array.getElem?_range, if_pos hlt, Option.map_some, getElem!_pos zv.cells _ hmod]
            exact hc'
          · intro ρ' hρ; simp only [VR]
            refine ⟨_, m, hρ, ?_, c1, ?_, ?_⟩ <;> simp [size_madeCells]
        · simp at hn
      · simp at hn
    · simp at hn
  · rename_i t
    simp at hn; obtain ⟨rfl, rfl⟩ := hn
    exact .inr ⟨rfl, .map (some w.heap.size), by simp [execOp, Instr.makeMap], fun ρ' hρ => by simp only [VR]; exact ⟨_, hρ, rfl⟩⟩
  · rename_i t r
    split at hn
    · rename_i key elem k i hu hr
      simp at hn; obtain ⟨rfl, rfl⟩ := hn
      have h1 := hf r _ hr
      refine .inr ⟨rfl, .map (some w.heap.size), ?_, fun ρ' hρ => by simp only [VR]; exact ⟨_, hρ, rfl⟩⟩
      have h2 := VR_int h1
      simp [execOp, Instr.makeMap, h2, hu, underlying, asInt, asIntOf]
    · simp at hn
  · simp at hn

theorem new_sound {N : Nat} {own : Own} {ρ : Rho} {h : AH} (H : HRel ρ h w) (hO : Owned N own ρ) (hN : N ≤ w.heap.size) {f : Operand → Option AV} {e : Operand → Value} (hf : EvR ρ f e) {o : Oper} {b : ABlk} {v : AV}
    (hn : newOp P f h.next o.op = some (b, v)) : Left P N h.next own ρ (h.new b) v w (execOp e o) := by
  rcases new_run w hf hn with ⟨n, z, arr, elem, c, rfl, h1, h2, h3, h4⟩ | ⟨rfl, c, h1, h2⟩
  · exact left_new w H hO hN h1 h2 h3 (h4 _ Rho.put_same)
  · exact ⟨_, c, _, _, h1, .inl rfl, h2 _ Rho.put_same, H.newMap, Rho.put_ext2 (H.fresh _ (Nat.le_refl _)), Keep.alloc w _ hN, hO.put (.inl hN)⟩
end
end Go.EV
