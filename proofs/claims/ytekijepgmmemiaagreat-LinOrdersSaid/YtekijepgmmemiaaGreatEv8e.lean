/- Own text of this claim: an abstract machine over the given program form, and what follows from it. No condition. -/
import Derived.Test.YtekijepgmmemiaaGreatEv8
set_option linter.unusedVariables false
set_option linter.unusedSimpArgs false
set_option maxHeartbeats 1000000
namespace Go.EV
section
variable {P : Program} (w : World)

theorem bltT {a b : Nat} (h : a < b) : Nat.blt a b = true := by simp [Nat.blt]; omega
theorem bltF {a b : Nat} (h : b ≤ a) : Nat.blt a b = false := by
  rw [Bool.eq_false_iff]
  intro h2
  simp [Nat.blt] at h2; omega
theorem cat_zero {f g : Nat → List AV} : catE 0 f g = g := by
  funext i
  unfold catE
  rw [bltF (Nat.zero_le i)]
  rfl
theorem ones_sub {l : List Value} (h : ones l) (a b : Nat) : ones ((l.drop a).take b) := fun c hc => h c (List.mem_of_mem_drop (List.mem_of_mem_take hc))
theorem ones_app {a b : List Value} (ha : ones a) (hb : ones b) : ones (a ++ b) := by
  intro c hc
  rcases List.mem_append.mp hc with h | h
  · exact ha c h
  · exact hb c h

/-- the pieces of a part of a row -/
theorem cells_piece {arr : Array Value} {o n e j : Nat} (hj : j < n) : ((cellsAt arr o (n * e)).drop (j * e)).take e = cellsAt arr (o + j * e) e := by
  have : (j + 1) * e ≤ n * e := Nat.mul_le_mul_right _ hj
  rw [Nat.add_mul] at this
  exact cellsAt_sub (by omega)

/-- cells that stand somewhere: they can be loaded -/
theorem load_at {blk o n : Nat} {arr : Array Value} {elem : TypeId} {fz : _} (hw : w.heap[blk]? = some (.cells arr elem fz)) (hl : o + n ≤ arr.size) :
    ∀ w' : World, w'.heap = w.heap → (Go.loadCells ⟨blk, o, none⟩ n).run P w' = .ok (cellsAt arr o n).toArray w' := by
  intro w' hw'
  have hl2 : (cellsAt arr o n).length = n := cellsAt_len hl
  have hr := run_loadCells_list (P := P) w' ⟨blk, o, none⟩ (cellsAt arr o n) (fun j u hj => by
    have hj' : j < n := by
      have := (List.getElem?_eq_some_iff.mp hj).1
      omega
    rw [cellsAt_get hj'] at hj
    rw [add_addr]
    simpa [World.cell?, hw', hw] using hj)
  rw [hl2] at hr
  exact hr

theorem first_sl {a : Addr} {n k e : Nat} {r : Array Value} {w' : World} (h : (Go.loadCells a (n * e)).run P w' = .ok r w') : (Builtin.firstCells e n (.slice (some a) n k)).run P w' = .ok r w' := by
  simpa [Builtin.firstCells] using h
theorem first_none {full : Bool} {cx : Value} (h : emptyS full cx) (e : Nat) (w' : World) : (Builtin.firstCells e 0 cx).run P w' = .ok (([] : List Value)).toArray w' := by
  rcases h with rfl | ⟨a, k, rfl, _⟩
  · simp [Builtin.firstCells]
  · simp [Builtin.firstCells, loadCells, loadCellsFrom]

/-- the elements of a slice, and its cells -/
theorem elems_rel {ρ : Rho} {h : AH} (H : HRel ρ h w) {e n : Nat} {x : AV} {g : Nat → List AV} (hg : elemsOf h e x = some g) (hn : lenA x = some n) {cx : Value} (hx : VR ρ x cx) :
    ∃ cs : List Value, (∀ w' : World, w'.heap = w.heap → (Builtin.firstCells e n cx).run P w' = .ok cs.toArray w') ∧ cs.length = n * e ∧ ones cs ∧ ∀ j, j < n → VRs ρ (g j) ((cs.drop (j * e)).take e) := by
  unfold elemsOf at hg
  split at hg
  · rename_i n' f e' full
    split at hg
    · rename_i he
      rw [Tr.beq_true] at he; subst he
      simp at hg; subst hg
      simp only [lenA, Option.some.injEq] at hn; subst hn
      simp only [VR] at hx
      rcases hx with ⟨rfl, hx⟩ | ⟨h0, blk, o, k, arr, rfl, h2, h3, h4, h5, h6⟩
      · exact ⟨[], fun w' _ => first_none hx _ w', by simp, (by intro c hc; cases hc), fun j hj => by omega⟩
      · obtain ⟨elem, fz, hw⟩ := H.frz _ _ h4
        refine ⟨cellsAt arr o (n' * e'), fun w' hw' => first_sl (load_at w hw h5 w' hw'), cellsAt_len h5, ?_, fun j hj => by rw [cells_piece hj]; exact (h6 j hj).1.ext (cold_ext ρ)⟩
        intro c hc
        obtain ⟨q, hq⟩ := List.mem_iff_getElem?.mp hc
        have hql : q < n' * e' := by
          have := (List.getElem?_eq_some_iff.mp hq).1
          rw [cellsAt_len h5] at this; exact this
        have hje : 0 < e' := by rcases Nat.eq_zero_or_pos e' with h | h; · subst h; omega
                                · exact h
        have hjn : q / e' < n' := (Nat.div_lt_iff_lt_mul hje).mpr hql
        refine (h6 (q / e') hjn).2 c (List.mem_of_getElem? (i := q % e') ?_)
        rw [cellsAt_get (Nat.mod_lt _ hje), Nat.add_assoc, Nat.mul_comm (q / e') e', Nat.div_add_mod]
        rw [cellsAt_get hql] at hq; exact hq
    · simp at hg
  · rename_i b j n' cap e'
    split at hg
    · rename_i he
      rw [Tr.beq_true] at he; subst he
      split at hg
      · rename_i e2 mm f hb
        split at hg
        · rename_i he
          rw [Tr.beq_true] at he; subst he
          simp at hg; subst hg
          simp only [lenA, Option.some.injEq] at hn; subst hn
          simp only [VR] at hx
          rcases hx with ⟨rfl, rfl, hx⟩ | ⟨cb, k, h1, rfl, h3, h4, h5⟩
          · exact ⟨[], fun w' _ => first_none hx _ w', by simp, (by intro c hc; cases hc), fun j hj => by omega⟩
          · obtain ⟨arr, elem, q1, q2, q2', _, q3⟩ := H.blk b _ hb cb h1
            have hsz : cb.base + j * e2 + n' * e2 ≤ arr.size := by rw [Nat.add_mul] at h4; omega
            have key : ∀ i, i < n' → cb.base + (j + i + 1) * e2 ≤ cb.kn := by
              intro i hi
              have : (j + i + 1) * e2 ≤ (j + n') * e2 := Nat.mul_le_mul_right _ (by omega)
              omega
            refine ⟨cellsAt arr (cb.base + j * e2) (n' * e2), fun w' hw' => first_sl (load_at w q1 hsz w' hw'), cellsAt_len hsz, ?_, fun i hi => ?_⟩
            · intro c hc
              obtain ⟨q, hq⟩ := List.mem_iff_getElem?.mp hc
              have hql : q < n' * e2 := by
                have := (List.getElem?_eq_some_iff.mp hq).1
                rw [cellsAt_len hsz] at this; exact this
              have hje : 0 < e2 := by rcases Nat.eq_zero_or_pos e2 with h | h; · subst h; omega
                                      · exact h
              have hjn : q / e2 < n' := (Nat.div_lt_iff_lt_mul hje).mpr hql
              refine (q3 (j + q / e2) (key _ hjn)).2 c (List.mem_of_getElem? (i := q % e2) ?_)
              rw [cellsAt_get (Nat.mod_lt _ hje)]
              rw [cellsAt_get hql] at hq
              rw [← hq]; congr 1
              have := Nat.div_add_mod q e2
              rw [Nat.mul_comm] at this
              rw [Nat.add_mul]; omega
            · show VRs ρ (f (addZ j i)) _
              rw [cells_piece hi, addZ_eq]
              have := (q3 (j + i) (key i hi)).1
              rw [Nat.add_mul, ← Nat.add_assoc] at this
              exact this
        · simp at hg
      · simp at hg
    · simp at hg
  · rename_i b off len cap e'
    split at hg
    · rename_i he
      rw [Tr.beq_true] at he; subst he
      split at hg
      · rename_i cs hcs
        split at hg
        · rename_i hna
          simp at hg; subst hg
          simp only [lenA, Option.some.injEq] at hn; subst hn
          simp only [VR] at hx
          obtain ⟨cb, k, hb, rfl, _⟩ := hx
          obtain ⟨l, h1, h2⟩ := HRel.loadCells' (P := P) H hcs hb
          have hcl : ∀ (n off : Nat) (vs : List AV), h.cells b off n = some vs → vs.length = n := by
            intro n
            induction n with
            | zero => intro off vs hv; simp [AH.cells] at hv; subst hv; simp
            | succ n ih =>
              intro off vs hv
              simp only [AH.cells] at hv
              split at hv
              · split at hv
                · rename_i us hu
                  simp at hv; subst hv
                  simp [ih _ us hu]
                · simp at hv
              · simp at hv
          refine ⟨l, fun w' hw' => first_sl (h1 w' hw'), by rw [VRs.length h2, hcl _ _ _ hcs], h2.of_all hna, fun j hj => ?_⟩
          exact (h2.drop _).take _
        · simp at hg
      · simp at hg
    · simp at hg
  · simp at hg; subst hg
    simp only [lenA, Option.some.injEq] at hn; subst hn
    simp only [VR] at hx; subst hx
    exact ⟨[], fun w' _ => by simp [Builtin.firstCells], by simp, (by intro c hc; cases hc), fun j hj => by omega⟩
  · simp at hg; subst hg
    simp only [lenA, Option.some.injEq] at hn; subst hn
    simp only [VR] at hx
    obtain ⟨a, k, rfl, _⟩ := hx
    exact ⟨[], fun w' _ => by simp [Builtin.firstCells, loadCells, loadCellsFrom], by simp, (by intro c hc; cases hc), fun j hj => by omega⟩
  · simp at hg

/-- elements, one list of cells behind another one -/
theorem cat_piece {ρ : Rho} {f g : Nat → List AV} {sl n e : Nat} {old new : List Value} (ho : old.length = sl * e) (hn : new.length = n * e) (h1 : ∀ j, j < sl → VRs ρ (f j) ((old.drop (j * e)).take e)) (h2 : ∀ j, j < n → VRs ρ (g j) ((new.drop (j * e)).take e))
    (z : List Value) {i : Nat} (hi : i < sl + n) : VRs ρ (catE sl f g i) (((old ++ new ++ z).drop (i * e)).take e) := by
  unfold catE
  by_cases hlt : i < sl
  · rw [bltT (show i < sl by omega)]
    simp only [cond_true]
    have : (i + 1) * e ≤ sl * e := Nat.mul_le_mul_right _ hlt
    rw [Nat.add_mul] at this
    rw [List.append_assoc, List.drop_append_of_le_length (by omega), List.take_append_of_le_length (by simp; omega)]
    exact h1 i hlt
  · rw [bltF (show sl ≤ i by omega)]
    simp only [cond_false]
    obtain ⟨k, rfl⟩ : ∃ k, i = sl + k := ⟨i - sl, by omega⟩
    have : (k + 1) * e ≤ n * e := Nat.mul_le_mul_right _ (by omega)
    rw [Nat.add_mul] at this
    rw [Nat.add_mul, List.append_assoc, ← ho, ← List.drop_drop, List.drop_left, List.drop_append_of_le_length (by omega), List.take_append_of_le_length (by simp; omega), show sl + k - sl = k by omega]
    exact h2 k (by omega)

theorem lt_of_mul {a b e : Nat} (he : 0 < e) (h : (a + 1) * e ≤ b * e) : a < b := by
  have := Nat.le_of_mul_le_mul_right h he
  omega
/-- other elements from a place on -/
theorem over_piece {ρ : Rho} {f g : Nat → List AV} {arr : Array Value} {base q n e : Nat} {new : List Value} (hn : new.length = n * e) (hfit : base + q * e + n * e ≤ arr.size) (on : ones new) (h2 : ∀ j, j < n → VRs ρ (g j) ((new.drop (j * e)).take e))
    {i : Nat} (hi : base + (i + 1) * e ≤ arr.size) (he : 0 < e) (hf : (i < q ∨ q + n ≤ i) → VRs ρ (f i) (cellsAt arr (base + i * e) e) ∧ ones (cellsAt arr (base + i * e) e)) :
    VRs ρ (overE q n f g i) (cellsAt (arr.toList.take (base + q * e) ++ new ++ arr.toList.drop (base + q * e + new.length)).toArray (base + i * e) e) ∧
      ones (cellsAt (arr.toList.take (base + q * e) ++ new ++ arr.toList.drop (base + q * e + new.length)).toArray (base + i * e) e) := by
  generalize harr : (arr.toList.take (base + q * e) ++ new ++ arr.toList.drop (base + q * e + new.length)).toArray = arr'
  have hget : ∀ i, arr'[i]? = if base + q * e ≤ i ∧ i < base + q * e + new.length then new[i - (base + q * e)]? else arr[i]? := by
    intro i
    rw [← harr, List.getElem?_toArray, seg_get (by simp; omega)]
    simp
  have hsz : arr'.size = arr.size := by rw [← harr]; simp; omega
  have hi2 := hi
  rw [Nat.add_mul] at hi2
  unfold overE
  by_cases hin : q ≤ i ∧ i < q + n
  · rw [show (Nat.ble q i && Nat.blt i (q + n)) = true by simp [Nat.blt]; omega]
    simp only [cond_true]
    obtain ⟨k, rfl⟩ : ∃ k, i = q + k := ⟨i - q, by omega⟩
    have hk : (k + 1) * e ≤ n * e := Nat.mul_le_mul_right _ (by omega)
    rw [Nat.add_mul] at hk
    have : cellsAt arr' (base + (q + k) * e) e = (new.drop (k * e)).take e := by
      apply List.ext_getElem?
      intro p
      rw [List.getElem?_take]
      rcases Nat.lt_or_ge p e with hp | hp
      · rw [cellsAt_get hp, if_pos hp, List.getElem?_drop, hget, Nat.add_mul, if_pos (by omega)]
        congr 1; omega
      · rw [if_neg (by omega), List.getElem?_eq_none (by rw [cellsAt_len (by omega)]; exact hp)]
    rw [this, show q + k - q = k by omega]
    exact ⟨h2 k (by omega), ones_sub on _ _⟩
  · rw [show (Nat.ble q i && Nat.blt i (q + n)) = false by
      rw [Bool.eq_false_iff]; intro h; simp [Nat.blt] at h; omega]
    simp only [cond_false]
    have : cellsAt arr' (base + i * e) e = cellsAt arr (base + i * e) e := by
      apply List.ext_getElem?
      intro p
      rcases Nat.lt_or_ge p e with hp | hp
      · rw [cellsAt_get hp, cellsAt_get hp, hget, if_neg]
        intro hh
        rcases Nat.lt_or_ge i q with hlt | hge
        · have : (i + 1) * e ≤ q * e := Nat.mul_le_mul_right _ hlt
          rw [Nat.add_mul] at this; omega
        · have : (q + n) * e ≤ i * e := Nat.mul_le_mul_right _ (by omega)
          rw [Nat.add_mul] at this; omega
      · rw [List.getElem?_eq_none (by rw [cellsAt_len (by omega)]; exact hp), List.getElem?_eq_none (by rw [cellsAt_len (by omega)]; exact hp)]
    rw [this]
    exact hf (by omega)
theorem cat_over {n m : Nat} {f g : Nat → List AV} {i : Nat} (h : i < n + m) : catE n f g i = overE n m f g i := by
  unfold catE overE
  by_cases hin : i < n
  · rw [bltT (show i < n by omega), show (Nat.ble n i && Nat.blt i (n + m)) = false by
      rw [Bool.eq_false_iff]; intro h; simp [Nat.blt] at h; omega]; rfl
  · rw [bltF (show n ≤ i by omega), show (Nat.ble n i && Nat.blt i (n + m)) = true by simp [Nat.blt]; omega]; rfl
theorem HRel.over {ρ : Rho} {h : AH} {w : World} (H : HRel ρ h w) (o : ABlk) : HRel ρ (h.new o) w := by
  have key : ∀ {x : Nat} {q : ABlk}, ∀ {cb : Cb}, ρ x = some cb → (h.new o).bs.get x = some q → h.bs.get x = some q := by
    intro x q cb hx hq
    simp only [AH.new, Tr.get_set] at hq
    split at hq
    · rename_i e
      subst e
      rw [H.fresh _ (Nat.le_refl _)] at hx; cases hx
    · exact hq
  have key2 : ∀ {x : Nat} {cb : Cb}, ρ x = some cb → (h.new o).bs.get x ≠ none → h.bs.get x ≠ none := by
    intro x cb hx hq
    cases hg : (h.new o).bs.get x with
    | none => exact absurd hg hq
    | some q => rw [key hx hg]; simp
  refine ⟨fun x q hq cb hx => H.blk x q (key hx hq) cb hx, fun x y cx cy g8 gx gy hx hy => H.inj x y cx cy g8 (key2 hx gx) (key2 hy gy) hx hy, fun x hx => H.fresh x (by simp only [AH.new] at hx; omega), ?_, H.bound, ?_, Nat.le_trans H.low (Nat.le_succ _), H.frz, fun x q cb hq g8 hx => H.sep x q cb (key hx hq) g8 hx⟩
  · intro x hx
    simp only [AH.new] at hx ⊢
    rw [Tr.get_set, if_neg (by omega)]
    exact H.live x (by omega)
  · intro x q hq hw
    simp only [AH.new, Tr.get_set] at hq
    split at hq
    · subst x; exact H.low
    · exact H.ro x q hq hw

theorem HRel.same_set {ρ : Rho} {h : AH} {w : World} (H : HRel ρ h w) {b : Nat} {o : ABlk} (hg : h.bs.get b = some o) : HRel ρ ⟨Tr.set o h.bs b, h.next⟩ w := by
  have key : ∀ x, (Tr.set o h.bs b).get x = h.bs.get x := by
    intro x
    rw [Tr.get_set]
    split
    · subst x; exact hg.symm
    · rfl
  refine ⟨fun x q hq => H.blk x q (by rw [← key x]; exact hq), fun x y cx cy g8 gx gy => H.inj x y cx cy g8 (by rw [← key x]; exact gx) (by rw [← key y]; exact gy), H.fresh, fun x hx => ?_, H.bound, fun x q hq => H.ro x q (by rw [← key x]; exact hq), H.low, H.frz, fun x q cb hq => H.sep x q cb (by rw [← key x]; exact hq)⟩
  show (Tr.set o h.bs b).get x = none
  rw [key x]; exact H.live x hx

/-- a grown row of elements -/
theorem growE_rel {N : Nat} {own : Own} {ρ : Rho} {h : AH} (H : HRel ρ h w) (hO : Owned N own ρ) (hN : N ≤ w.heap.size) {f g : Nat → List AV} {sl n e cap : Nat} {old new : List Value} {zc : Array Value} {elem : TypeId}
    (ho : old.length = sl * e) (hn : new.length = n * e) (oo : ones old) (on : ones new) (h1 : ∀ j, j < sl → VRs ρ (f j) ((old.drop (j * e)).take e)) (h2 : ∀ j, j < n → VRs ρ (g j) ((new.drop (j * e)).take e)) (hcap : sl + n ≤ cap) (he : 0 < e) (hzc : zc.size = e) :
    ∃ ρ', VR ρ' (.es h.next 0 (sl + n) none e) (.slice (some ⟨w.heap.size, 0, none⟩) (sl + n) cap) ∧
      HRel ρ' (h.new (.els e (sl + n) (catE sl f g))) (w.drew.alloc (.cells (old.toArray ++ new.toArray ++ Builtin.zeroCells zc (cap - (sl + n))) elem)) ∧ Ext2 h.next ρ ρ' ∧
      Keep N own w (w.drew.alloc (.cells (old.toArray ++ new.toArray ++ Builtin.zeroCells zc (cap - (sl + n))) elem)) ∧ Owned N own ρ' := by
  have hsz : (sl + n) * e ≤ (old.toArray ++ new.toArray ++ Builtin.zeroCells zc (cap - (sl + n))).size := by
    simp [ho, hn, Nat.add_mul]
  have hsz2 : (old.toArray ++ new.toArray ++ Builtin.zeroCells zc (cap - (sl + n))).size = cap * e := by
    simp [zeroCells_size, hzc, ho, hn]
    rw [← Nat.add_mul, ← Nat.add_mul]; congr 1; omega
  refine ⟨ρ.put h.next ⟨w.heap.size, 0, cap * e, (sl + n) * e⟩, ?_, H.drew.alloc ⟨_, elem, rfl, hsz2, Nat.mul_le_mul_right _ hcap, by simp, fun i hi => ?_⟩, Rho.put_ext2 (H.fresh _ (Nat.le_refl _)), (Keep.drew w).trans (Keep.alloc w.drew _ hN), hO.put (.inl hN)⟩
  · simp only [VR]
    exact .inr ⟨_, cap, Rho.put_same, by simp, hcap, by simp, by simp, by simp⟩
  · simp only [Nat.zero_add] at hi ⊢
    have hi' : i < sl + n := lt_of_mul he hi
    have hcs : cellsAt (old.toArray ++ new.toArray ++ Builtin.zeroCells zc (cap - (sl + n))) (i * e) e = ((old ++ new ++ (Builtin.zeroCells zc (cap - (sl + n))).toList).drop (i * e)).take e := by
      unfold cellsAt; simp
    rw [hcs]
    refine ⟨(cat_piece ho hn h1 h2 _ hi').ext (Rho.put_ext (H.fresh _ (Nat.le_refl _))), ?_⟩
    have hle : (i + 1) * e ≤ (sl + n) * e := hi
    have : ((old ++ new ++ (Builtin.zeroCells zc (cap - (sl + n))).toList).drop (i * e)).take e = ((old ++ new).drop (i * e)).take e := by
      rw [Nat.add_mul, Nat.add_mul] at hle
      rw [List.drop_append_of_le_length (by simp; omega), List.take_append_of_le_length (by simp; omega)]
    rw [this]
    exact ones_sub (ones_app oo on) _ _

theorem appendE_rel {N : Nat} {own : Own} {ρ : Rho} {h h' : AH} (H : HRel ρ h w) (hO : Owned N own ρ) (hN : N ≤ w.heap.size) {t t2 : TypeId} {s x v : AV} {cs cx : Value} (hs : VR ρ s cs) (hx : VR ρ x cx)
    (ha : appendE P h t t2 s x = some (v, h')) (ty : TypeId) :
    ∃ ρ' c w', (Builtin.append_ #[t, t2] ty #[cs, cx]).run P w = .ok c w' ∧ VR ρ' v c ∧ HRel ρ' h' w' ∧ Ext2 h.next ρ ρ' ∧ Keep N own w w' ∧ Owned N own ρ' := by
  unfold appendE at ha
  split at ha
  · rename_i elem d2 hu hu2
    split at ha
    · rename_i i z sl n hi hz hsl hn
      split at ha
      · rename_i f g hc hf hg
        simp only [Bool.and_eq_true, Tr.beq_true, Nat.ble_eq] at hc
        obtain ⟨⟨⟨c1, c2⟩, c3⟩, c4⟩ := hc
        have c1' : 0 < i.size := by simp [Nat.blt] at c1; omega
        have c2' : 0 < i.bytes := by simp [Nat.blt] at c2; omega
        have hzz : ∃ zv, i.zero = some zv ∧ zv.cells.size = i.size := by
          unfold zeroOf at hz
          rw [hi] at hz
          simp only at hz
          split at hz
          · rename_i zv hzv
            have := VRs.length (cellsOfValue_rel (ρ := ρ) hz)
            exact ⟨zv, hzv, by simp at this; omega⟩
          · simp at hz
        obtain ⟨zv, hzv, hzs⟩ := hzz
        obtain ⟨old, or1, or2, or3, or4⟩ := elems_rel (P := P) w H hf hsl hs
        obtain ⟨new, nr1, nr2, nr3, nr4⟩ := elems_rel (P := P) w H hg hn hx
        have hlenr : ∀ w', (Builtin.lenOf cx).run P w' = .ok n w' := fun w' => (lenA_rel w' hn hx).1
        obtain ⟨_, a, k, rfl⟩ := lenA_rel (P := P) w hsl hs
        have grow : k < sl + n → ∀ {h2 : AH}, HRel ρ h2 w → h2.next = h.next → ∃ ρ' c w', (Builtin.append_ #[t, t2] ty #[.slice a sl k, cx]).run P w = .ok c w' ∧ VR ρ' (.es h.next 0 (sl + n) none i.size) c ∧ HRel ρ' (h2.new (.els i.size (sl + n) (catE sl f g))) w' ∧ Ext2 h.next ρ ρ' ∧ Keep N own w w' ∧ Owned N own ρ' := by
          intro hgr h2 H2 hnx
          obtain ⟨cap', arr', g1, rfl, g2⟩ := run_grow w hu hu2 hi hzv hlenr or1 nr1 hgr c2' c4 ty
          obtain ⟨ρ', q1, q2, q3, q4, q5⟩ := growE_rel (zc := zv.cells) (elem := elem) w H2 hO hN or2 nr2 or3 nr3 or4 nr4 g1 c1' hzs
          rw [hnx] at q1 q3
          exact ⟨ρ', _, _, g2, q1, q2, q3, q4, q5⟩
        have nothing : n = 0 → sl = 0 → (Builtin.append_ #[t, t2] ty #[.slice a sl k, cx]).run P w = .ok (.slice a sl k) w := by
          rintro rfl rfl
          have : new = [] := List.length_eq_zero_iff.mp (by omega)
          subst this
          exact run_none w hu hu2 hi hlenr (by simpa using nr1 w rfl) ty
        -- of what is empty: nothing is appended, or a new row is made
        have fresh : sl = 0 → emptyS true (.slice a sl k) → ∀ {h2 : AH}, HRel ρ h2 w → h2.next = h.next → ∃ ρ' c w', (Builtin.append_ #[t, t2] ty #[.slice a sl k, cx]).run P w = .ok c w' ∧ VR ρ' (.es h.next 0 n none i.size) c ∧ HRel ρ' (h2.new (.els i.size n g)) w' ∧ Ext2 h.next ρ ρ' ∧ Keep N own w w' ∧ Owned N own ρ' := by
          intro h0 hem h2 H2 hnx
          subst h0
          have hk : k = 0 := by
            rcases hem with h | ⟨a', k', h, hk⟩
            · cases h; rfl
            · cases h; exact hk rfl
          subst hk
          rcases Nat.eq_zero_or_pos n with hn0 | hn0
          · subst hn0
            exact ⟨ρ, _, w, nothing rfl rfl, by simp only [VR]; exact .inl ⟨trivial, trivial, hem⟩, H2.over _, Ext2.refl _ ρ, Keep.refl _ _ w, hO⟩
          · have hcat : catE 0 f g = g := cat_zero
            have := grow (by omega) H2 hnx
            rw [hcat, Nat.zero_add] at this
            exact this
        have fulls : k = sl → n ≠ 0 → ∃ ρ' c w', (Builtin.append_ #[t, t2] ty #[.slice a sl k, cx]).run P w = .ok c w' ∧ VR ρ' (.es h.next 0 (sl + n) none i.size) c ∧ HRel ρ' (h.new (.els i.size (sl + n) (catE sl f g))) w' ∧ Ext2 h.next ρ ρ' ∧ Keep N own w w' ∧ Owned N own ρ' := by
          intro hk hn0
          exact grow (by omega) H rfl
        -- nothing is appended
        have same : n = 0 → (∃ q : Nat × Nat, a = some ⟨q.1, q.2, none⟩) ∨ sl = 0 → sl ≤ k → (Builtin.append_ #[t, t2] ty #[.slice a sl k, cx]).run P w = .ok (.slice a sl k) w := by
          rintro rfl hq hle
          have : new = [] := List.length_eq_zero_iff.mp (by omega)
          subst this
          rcases hq with ⟨q, rfl⟩ | h0
          · have := run_room (ty := ty) w hu hu2 hi hlenr (nr1 w rfl) (o := q.2) (g := q.1) (sl := sl) (k := k) (w' := w) (by simp [storeCells]) (by omega)
            simpa using this
          · exact nothing rfl h0
        split at ha
        · rename_i n' f' e'
          have hs' := hs
          simp only [lenA, Option.some.injEq] at hsl; subst hsl
          simp only [VR] at hs'
          split at ha
          · simp at ha; obtain ⟨rfl, rfl⟩ := ha
            refine ⟨ρ, _, w, same rfl ?_ ?_, hs, H, Ext2.refl _ ρ, Keep.refl _ _ w, hO⟩
            · rcases hs' with ⟨h0, _⟩ | ⟨_, blk, o, k', arr, h1, _⟩
              · exact .inr h0
              · cases h1; exact .inl ⟨(blk, o), rfl⟩
            · rcases hs' with ⟨h0, _⟩ | ⟨_, blk, o, k', arr, h1, h2, _⟩
              · omega
              · cases h1; exact h2
          · rename_i n''
            simp at ha; obtain ⟨rfl, rfl⟩ := ha
            refine fulls ?_ (by omega)
            rcases hs' with ⟨rfl, hem⟩ | ⟨_, blk, o, k', arr, h1, h2, h3, _⟩
            · rcases hem with h | ⟨a', k', h, hk⟩
              · cases h; rfl
              · cases h; exact hk rfl
            · cases h1; exact h3 trivial
        · rename_i b off len c e'
          have hs' := hs
          simp only [lenA, Option.some.injEq] at hsl; subst hsl
          simp only [VR] at hs'
          obtain ⟨cb, k', hb, he, hlk, htot, hcp⟩ := hs'
          cases he
          split at ha
          · rename_i hcl
            rw [Tr.beq_true] at hcl; subst hcl
            have hk := hcp _ rfl
            subst hk
            split at ha
            · simp at ha; obtain ⟨rfl, rfl⟩ := ha
              exact fresh rfl (.inr ⟨_, _, rfl, fun _ => rfl⟩) H rfl
            · rename_i sl'
              split at ha
              · simp at ha; obtain ⟨rfl, rfl⟩ := ha
                exact ⟨ρ, _, w, same rfl (.inl ⟨(cb.blk, cb.base + off), rfl⟩) (Nat.le_refl _), hs, H, Ext2.refl _ ρ, Keep.refl _ _ w, hO⟩
              · rename_i n'
                simp at ha; obtain ⟨rfl, rfl⟩ := ha
                exact fulls rfl (by omega)
          · simp at ha
        · simp only [lenA, Option.some.injEq] at hsl; subst hsl
          simp only [VR] at hs; cases hs
          simp at ha; obtain ⟨rfl, rfl⟩ := ha
          exact fresh rfl (.inl rfl) H rfl
        · simp only [lenA, Option.some.injEq] at hsl; subst hsl
          simp only [VR] at hs
          obtain ⟨a', k', he, hk⟩ := hs
          cases he
          have := hk trivial; subst this
          simp at ha; obtain ⟨rfl, rfl⟩ := ha
          exact fresh rfl (.inr ⟨_, _, rfl, fun _ => rfl⟩) H rfl
        · rename_i b j len cap e'
          have hs' := hs
          simp only [lenA, Option.some.injEq] at hsl; subst hsl
          simp only [VR] at hs'
          have hf' := hf
          unfold elemsOf at hf'
          simp only at hf'
          split at hf'
          · rename_i he
            rw [Tr.beq_true] at he; subst he
            split at hf'
            · rename_i e2 mm f0 hgb
              split at hf'
              · rename_i he2
                rw [Tr.beq_true] at he2; subst he2
                simp at hf'; subst hf'
                have h8 : 8 ≤ b := H.ro b _ hgb (by intro n f hh; cases hh)
                split at ha
                · simp at ha; obtain ⟨rfl, rfl⟩ := ha
                  rcases hs' with ⟨rfl, _, hem⟩ | ⟨cb, k', hb, he, hlk, hkn, htot, _⟩
                  · have := fresh rfl hem (HRel.del w H b) rfl
                    have hcat : catE 0 (fun i => f0 (addZ j i)) g = g := cat_zero
                    rw [hcat, Nat.zero_add]
                    exact this
                  · cases he
                    by_cases hle : len + n ≤ k
                    · obtain ⟨arr, el, e1, e2', e3', e3n, e3⟩ := H.blk b _ hgb cb hb
                      have hfit : cb.base + j * i.size + len * i.size + n * i.size ≤ arr.size := by
                        have : (len + n) * i.size ≤ k * i.size := Nat.mul_le_mul_right _ hle
                        rw [Nat.add_mul] at this htot; omega
                      have hst := run_storeCells_at P cb.blk (cb.base + j * i.size + len * i.size) el new 0 arr w e1 (by omega) nr3
                      rw [Nat.add_zero] at hst
                      have hrun := run_room (ty := ty) w hu hu2 hi hlenr (nr1 w rfl) hst hle
                      refine ⟨_, _, _, hrun, ?_, HRel.move w H hgb h8 hb e1 (base' := cb.base + j * i.size) (tot' := cb.tot) (kn' := cb.base + j * i.size + (len + n) * i.size) ⟨_, el, rfl, ?_, ?_, Nat.le_refl _, fun q hq => ?_⟩, Rho.put_ext2 (H.fresh _ (Nat.le_refl _)), Keep.setRow w _ (hO b cb h8 hb), hO.put (hO b cb h8 hb)⟩
                      · simp only [VR]
                        refine .inr ⟨_, k, Rho.put_same, by simp, hle, by simp, ?_, by simp⟩
                        rw [Nat.add_mul] at htot; simp; omega
                      · simp; omega
                      · simp only [Nat.add_mul] at hfit ⊢; omega
                      · simp only at hq ⊢
                        have hi2 : (q + 1) * i.size ≤ (len + n) * i.size := by omega
                        have hi' : q < len + n := lt_of_mul c1' hi2
                        rw [cat_over hi']
                        refine over_piece nr2 hfit nr3 nr4 ?_ c1' (fun hh => ?_)
                        · rw [Nat.add_mul len n] at hi2; omega
                        · have hil : q < len := by omega
                          have hkn2 : cb.base + (j + q + 1) * i.size ≤ cb.kn := by
                            have : (j + q + 1) * i.size ≤ (j + len) * i.size := Nat.mul_le_mul_right _ (by omega)
                            omega
                          have := e3 (j + q) hkn2
                          rw [addZ_eq, Nat.add_assoc, ← Nat.add_mul]
                          exact this
                    · exact grow (by omega) (HRel.del w H b) rfl
                · rename_i c
                  split at ha
                  · rename_i hle
                    simp only [Nat.ble_eq] at hle
                    rw [hgb] at ha
                    simp at ha; obtain ⟨rfl, rfl⟩ := ha
                    rcases hs' with ⟨_, h0, _⟩ | ⟨cb, k', hb, he, hlk, hkn, htot, hcp⟩
                    · cases h0
                    · cases he
                      obtain ⟨rfl, hkc⟩ := hcp _ rfl
                      obtain ⟨arr, el, e1, e2', e3', e3n, e3⟩ := H.blk b _ hgb cb hb
                      have hln : (j + len + n) * i.size ≤ (j + k) * i.size := Nat.mul_le_mul_right _ (by omega)
                      have hfit : cb.base + (j + len) * i.size + n * i.size ≤ arr.size := by
                        rw [Nat.add_mul (j + len) n] at hln; omega
                      have hst := run_storeCells_at P cb.blk (cb.base + (j + len) * i.size) el new 0 arr w e1 (by omega) nr3
                      rw [Nat.add_zero] at hst
                      have hrun := run_room (ty := ty) w hu hu2 hi hlenr (nr1 w rfl) (g := cb.blk) (o := cb.base + j * i.size) (sl := len) (k := k) (by rw [Nat.add_assoc, ← Nat.add_mul]; exact hst) hle
                      refine ⟨ρ, _, _, hrun, ?_, H.upd hb hgb h8 (by rw [World.setRow_size]; exact Nat.le_refl _) (fun k hk => World.setRow_get_other hk) ⟨_, el, World.setRow_get_same e1, ?_, e3', e3n, fun q hq => ?_⟩, Ext2.refl _ ρ, Keep.setRow w _ (hO b cb h8 hb), hO⟩
                      · simp only [VR]
                        refine .inr ⟨cb, k, hb, rfl, hle, ?_, htot, fun m hm => ?_⟩
                        · rw [← Nat.add_assoc]; omega
                        · cases hm; exact ⟨rfl, hkc⟩
                      · simp; omega
                      · rw [addZ_eq]
                        exact over_piece nr2 hfit nr3 nr4 (by omega) c1' (fun _ => e3 q hq)
                  · rename_i hle
                    simp at ha; obtain ⟨rfl, rfl⟩ := ha
                    rcases hs' with ⟨_, h0, _⟩ | ⟨cb, k', hb, he, hlk, hkn, htot, hcp⟩
                    · cases h0
                    · cases he
                      obtain ⟨rfl, hkc⟩ := hcp _ rfl
                      exact grow (by have := ble_false (by simpa using hle); omega) H rfl
              · simp at hf'
            · simp at hf'
          · simp at hf'
        · simp at ha
      · simp at ha
    · simp at ha
  · simp at ha

/-- the first elements of a slice, and their cells -/
theorem elemsK_rel {ρ : Rho} {h : AH} (H : HRel ρ h w) {e n m : Nat} (hm : m ≤ n) {x : AV} (hi : isEls x = true) {g : Nat → List AV} (hg : elemsOf h e x = some g) (hn : lenA x = some n) {cx : Value} (hx : VR ρ x cx) :
    ∃ cs : List Value, (∀ w' : World, w'.heap = w.heap → (Builtin.firstCells e m cx).run P w' = .ok cs.toArray w') ∧ cs.length = m * e ∧ ones cs ∧ ∀ j, j < m → VRs ρ (g j) ((cs.drop (j * e)).take e) := by
  have hme : m * e ≤ n * e := Nat.mul_le_mul_right _ hm
  have key : ∀ (blk o k : Nat) (arr : Array Value) (elem : TypeId) (fz : Nat × Nat), w.heap[blk]? = some (.cells arr elem fz) → o + n * e ≤ arr.size → (∀ j, j < n → VRs ρ (g j) (cellsAt arr (o + j * e) e) ∧ ones (cellsAt arr (o + j * e) e)) → 
      ∃ cs : List Value, (∀ w' : World, w'.heap = w.heap → (Builtin.firstCells e m (.slice (some ⟨blk, o, none⟩) n k)).run P w' = .ok cs.toArray w') ∧ cs.length = m * e ∧ ones cs ∧ ∀ j, j < m → VRs ρ (g j) ((cs.drop (j * e)).take e) := by
    intro blk o k arr elem fz hw h5 h6
    refine ⟨cellsAt arr o (m * e), fun w' hw' => ?_, cellsAt_len (by omega), ?_, fun j hj => by rw [cells_piece hj]; exact (h6 j (by omega)).1⟩
    · have := load_at (P := P) w hw (n := m * e) (o := o) (by omega) w' hw'
      simpa [Builtin.firstCells] using this
    · intro c hc
      obtain ⟨q, hq⟩ := List.mem_iff_getElem?.mp hc
      have hql : q < m * e := by
        have := (List.getElem?_eq_some_iff.mp hq).1
        rw [cellsAt_len (by omega)] at this; exact this
      have hje : 0 < e := by rcases Nat.eq_zero_or_pos e with h | h; · subst h; omega
                             · exact h
      have hjn : q / e < m := (Nat.div_lt_iff_lt_mul hje).mpr hql
      refine (h6 (q / e) (by omega)).2 c (List.mem_of_getElem? (i := q % e) ?_)
      rw [cellsAt_get (Nat.mod_lt _ hje), Nat.add_assoc, Nat.mul_comm (q / e) e, Nat.div_add_mod]
      rw [cellsAt_get hql] at hq; exact hq
  have none : n = 0 → emptyS false cx → ∃ cs : List Value, (∀ w' : World, w'.heap = w.heap → (Builtin.firstCells e m cx).run P w' = .ok cs.toArray w') ∧ cs.length = m * e ∧ ones cs ∧ ∀ j, j < m → VRs ρ (g j) ((cs.drop (j * e)).take e) := by
    intro h0 hem
    obtain rfl : m = 0 := by omega
    exact ⟨[], fun w' _ => first_none hem _ w', by simp, (by intro c hc; cases hc), fun j hj => by omega⟩
  have weak : ∀ {full : Bool}, emptyS full cx → emptyS false cx := by
    intro full h
    rcases h with h | ⟨a, k, h, _⟩
    · exact .inl h
    · exact .inr ⟨a, k, h, fun h => by cases h⟩
  unfold elemsOf at hg
  split at hg
  · rename_i n' f e' full
    split at hg
    · rename_i he
      rw [Tr.beq_true] at he; subst he
      simp at hg; subst hg
      simp only [lenA, Option.some.injEq] at hn; subst hn
      simp only [VR] at hx
      rcases hx with ⟨h0, hx⟩ | ⟨h0, blk, o, k, arr, rfl, h2, h3, h4, h5, h6⟩
      · exact none h0 (weak hx)
      · obtain ⟨elem, fz, hw⟩ := H.frz _ _ h4
        exact key blk o k arr elem fz hw h5 (fun j hj => ⟨(h6 j hj).1.ext (cold_ext ρ), (h6 j hj).2⟩)
    · simp at hg
  · rename_i b j n' cap e'
    split at hg
    · rename_i he
      rw [Tr.beq_true] at he; subst he
      split at hg
      · rename_i e2 mm f hb
        split at hg
        · rename_i he
          rw [Tr.beq_true] at he; subst he
          simp at hg; subst hg
          simp only [lenA, Option.some.injEq] at hn; subst hn
          simp only [VR] at hx
          rcases hx with ⟨h0, rfl, hx⟩ | ⟨cb, k, h1, rfl, h3, h4, h5⟩
          · exact none h0 (weak hx)
          · obtain ⟨arr, elem, q1, q2, q2', _, q3⟩ := H.blk b _ hb cb h1
            refine key cb.blk (cb.base + j * e2) k arr elem (0, 0) q1 (by rw [Nat.add_mul] at h4; omega) (fun i hi => ?_)
            have : (j + i + 1) * e2 ≤ (j + n') * e2 := Nat.mul_le_mul_right _ (by omega)
            have := q3 (j + i) (by omega)
            show VRs ρ (f (addZ j i)) _ ∧ _
            rw [addZ_eq]
            rw [Nat.add_mul, ← Nat.add_assoc] at this
            exact this
        · simp at hg
      · simp at hg
    · simp at hg
  · simp [isEls] at hi
  · simp [isEls] at hi
  · simp [isEls] at hi
  · simp at hg

theorem copyE_rel {N : Nat} {own : Own} {ρ : Rho} {h h' : AH} (H : HRel ρ h w) (hO : Owned N own ρ) {t : TypeId} {d s v : AV} {cd cs : Value} (hd : VR ρ d cd) (hs : VR ρ s cs)
    (ha : copyE P h t d s = some (v, h')) (at' : Array TypeId) (hat : at'[0]? = some t) (ty : TypeId) :
    ∃ ρ' c w', (Builtin.copy_ at' ty #[cd, cs]).run P w = .ok c w' ∧ VR ρ' v c ∧ HRel ρ' h' w' ∧ Ext2 h.next ρ ρ' ∧ Keep N own w w' ∧ Owned N own ρ' := by
  unfold copyE at ha
  split at ha
  · rename_i elem hu
    split at ha
    · rename_i sz dl l hsz hdl hl
      obtain ⟨d1, da, dk, rfl⟩ := lenA_rel (P := P) w hdl hd
      obtain ⟨s1, _⟩ := lenA_rel (P := P) w hl hs
      split at ha
      · rename_i g b j n cap e hg
        split at ha
        · rename_i e' mm f hb
          split at ha
          · rename_i hc
            simp only [Bool.and_eq_true, Tr.beq_true] at hc
            obtain ⟨⟨⟨rfl, rfl⟩, hc3⟩, hc4⟩ := hc
            have hc4 : 0 < e' := by simp [Nat.blt] at hc4; omega
            simp only [Option.some.injEq, Prod.mk.injEq] at ha; obtain ⟨rfl, rfl⟩ := ha
            simp only [lenA, Option.some.injEq] at hdl; subst hdl
            obtain ⟨ncs, r1, r2, r3, r4⟩ := elemsK_rel (P := P) w H (m := Nat.min l n) (Nat.min_le_left l n) hc3 hg hl hs
            have hr := r1 w rfl
            simp only [VR] at hd
            rcases hd with ⟨rfl, rfl, hem⟩ | ⟨cb, k, hcb, he, hlk, hkn, htot, hcp⟩
            · rw [show Nat.min l 0 = 0 from Nat.min_zero l] at r2 hr ⊢
              have : ncs = [] := List.length_eq_zero_iff.mp (by omega)
              subst this
              have hov : overE j 0 f g = f := by
                funext i
                unfold overE
                rw [show (Nat.ble j i && Nat.blt i (j + 0)) = false by rw [Bool.eq_false_iff]; intro h; simp [Nat.blt] at h; omega]
                rfl
              rw [hov]
              refine ⟨ρ, .int .i64 0, w, ?_, by simp only [VR]; rfl, ?_, Ext2.refl _ ρ, Keep.refl _ _ w, hO⟩
              · rcases hem with h | ⟨a, k', h, _⟩
                · cases h
                  simp [Builtin.copy_, hat, run_ul w hu, s1, run_sz w hsz, hr, goInt]
                · cases h
                  simp [Builtin.copy_, hat, run_ul w hu, s1, run_sz w hsz, hr, goInt, storeCells]
              · exact H.same_set hb
            · cases he
              obtain ⟨arr, el, e1, e2', e3', e3n, e3⟩ := H.blk b _ hb cb hcb
              have h8 : 8 ≤ b := H.ro b _ hb (by intro n f hh; cases hh)
              have hmn : Nat.min l n ≤ n := Nat.min_le_right l n
              have hln : (j + Nat.min l n) * e' ≤ (j + n) * e' := Nat.mul_le_mul_right _ (by omega)
              have hfit : cb.base + j * e' + Nat.min l n * e' ≤ arr.size := by
                rw [Nat.add_mul j (Nat.min l n)] at hln; omega
              have hst := run_storeCells_at P cb.blk (cb.base + j * e') el ncs 0 arr w e1 (by omega) r3
              rw [Nat.add_zero] at hst
              have hpc : ∀ q, cb.base + (q + 1) * e' ≤ cb.kn → _ := fun q hq => over_piece (f := f) (g := g) (arr := arr) (base := cb.base) (q := j) (n := Nat.min l n) (e := e') (i := q) r2 hfit r3 r4 (by omega) hc4 (fun _ => e3 q hq)
              have hsz' : (arr.toList.take (cb.base + j * e') ++ ncs ++ arr.toList.drop (cb.base + j * e' + ncs.length)).toArray.size = cb.tot := by simp; omega
              generalize (arr.toList.take (cb.base + j * e') ++ ncs ++ arr.toList.drop (cb.base + j * e' + ncs.length)).toArray = arr' at hst hpc hsz'
              refine ⟨ρ, .int .i64 ((Nat.min l n : Nat) : Int), w.setRow cb.blk arr', ?_, by simp only [VR], H.upd hcb hb h8 (by rw [World.setRow_size]; exact Nat.le_refl _) (fun k hk => World.setRow_get_other hk) ⟨arr', el, World.setRow_get_same e1, hsz', e3', e3n, hpc⟩, Ext2.refl _ ρ, Keep.setRow w _ (hO b cb h8 hcb), hO⟩
              simp [Builtin.copy_, hat, run_ul w hu, s1, run_sz w hsz, hr, hst, goInt]
          · simp at ha
        · simp at ha
      · simp at ha
    · simp at ha
  · simp at ha
end
end Go.EV
