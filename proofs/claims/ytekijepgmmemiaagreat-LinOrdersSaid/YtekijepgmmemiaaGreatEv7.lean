/- Own text of this claim: an abstract machine over the given program form, and what follows from it. No condition. -/
import Derived.Test.YtekijepgmmemiaaGreatEv6
set_option linter.unusedVariables false
set_option linter.unusedSimpArgs false
set_option maxHeartbeats 1000000
namespace Go.EV
section
variable {P : Program} (w : World)

theorem store_sound {N : Nat} {own : Own} {ρ : Rho} {h h' : AH} (H : HRel ρ h w) (hO : Owned N own ρ) {f : Operand → Option AV} {e : Operand → Value} (hf : EvR ρ f e) {o : Oper} {t : TypeId} {a x : Operand} (ho : o.op = .store t a x)
    {b off : Nat} {v : AV} (ha : f a = some (.ptr b off)) (hx : f x = some v) (hs : storeV P h t b off v = some h') : Left P N h.next own ρ h' undefA w (execOp e o) := by
  have hr := hf _ _ ha
  simp only [VR] at hr
  obtain ⟨cb, hb, he⟩ := hr
  unfold storeV at hs
  split at hs
  · rename_i n hn
    split at hs
    · rename_i hc
      simp only [Bool.and_eq_true, Tr.beq_true] at hc
      have hv := (hf _ _ hx).cells
      have hl := VRs.length hv
      obtain ⟨w', h1, h2, h3⟩ := H.put (P := P) hO hs hb hv (hv.of_all hc.2)
      refine ⟨ρ, undef, w', .skip, ?_, .inr ⟨rfl, rfl⟩, by simp [undefA, VR, VRs, undef], h2, Ext2.refl _ ρ, h3, hO⟩
      simp at hl
      have : (e x).cells.size = n := by omega
      simp [execOp, ho, Instr.storeAt, he, Instr.sureAddr, storeVar, run_sz w hn, this, h1]
    · simp at hs
  · simp at hs

theorem seg_getA {l : List AV} {o : Nat} {vs : List AV} (ho : o + vs.length ≤ l.length) (i : Nat) :
    (l.take o ++ vs ++ l.drop (o + vs.length))[i]? = if o ≤ i ∧ i < o + vs.length then vs[i - o]? else l[i]? := by
  have hl : (l.take o).length = o := by simp; omega
  by_cases h1 : i < o
  · rw [if_neg (by omega), List.append_assoc, List.getElem?_append_left (by omega), List.getElem?_take, if_pos h1]
  · by_cases h2 : i < o + vs.length
    · rw [if_pos ⟨by omega, h2⟩, List.append_assoc, List.getElem?_append_right (by omega), hl, List.getElem?_append_left (by omega)]
    · rw [if_neg (by omega), List.getElem?_append_right (by simp; omega), List.getElem?_drop]
      congr 1; simp; omega

theorem HRel.loadCells' {ρ : Rho} {h : AH} {w : World} (H : HRel ρ h w) {b off n : Nat} {vs : List AV} (hv : h.cells b off n = some vs) {cb : Cb} (hb : ρ b = some cb) :
    ∃ cs : List Value, (∀ w' : World, w'.heap = w.heap → (Go.loadCells ⟨cb.blk, cb.base + off, none⟩ n).run P w' = .ok cs.toArray w') ∧ VRs ρ vs cs := by
  obtain ⟨cs, h1, h2, h3⟩ := H.cells hb n off vs hv
  refine ⟨cs, fun w' hw' => ?_, h1⟩
  subst h2
  refine run_loadCells_list w' _ cs (fun j v hj => ?_)
  rw [add_addr]
  have := h3 j v hj
  unfold World.cell? at *
  rw [hw']; exact this

theorem run_firstCells {ρ : Rho} {h : AH} (H : HRel ρ h w) {esz n : Nat} {x : AV} {new : List AV} (hs : srcCells h esz n x = some new) {cx : Value} (hx : VR ρ x cx) :
    ∃ cs : List Value, (∀ w' : World, w'.heap = w.heap → (Builtin.firstCells esz n cx).run P w' = .ok cs.toArray w') ∧ VRs ρ new cs := by
  unfold srcCells at hs
  simp only [cellsF_eq] at hs
  split at hs
  · rename_i b off len cap sz
    split at hs
    · simp only [VR] at hx
      obtain ⟨cb, k, hb, rfl, _⟩ := hx
      obtain ⟨cs, h1, h2⟩ := HRel.loadCells' (P := P) H hs hb
      exact ⟨cs, fun w' hw' => by simpa [Builtin.firstCells] using h1 w' hw', h2⟩
    · simp at hs
  · split at hs
    · simp at hs; subst hs
      simp only [VR] at hx; subst hx
      exact ⟨[], fun w' _ => by simp [Builtin.firstCells], by simp [VRs]⟩
    · simp at hs
  · split at hs
    · simp at hs; subst hs
      simp only [VR] at hx
      obtain ⟨a, k, rfl, _⟩ := hx
      exact ⟨[], fun w' _ => by simp [Builtin.firstCells, loadCells, loadCellsFrom], by simp [VRs]⟩
    · simp at hs
  · simp at hs

theorem lenA_rel {ρ : Rho} {x : AV} {n : Nat} (h : lenA x = some n) {cx : Value} (hx : VR ρ x cx) : (Builtin.lenOf cx).run P w = .ok n w ∧ ∃ a k, cx = .slice a n k := by
  unfold lenA at h
  split at h <;> first
    | (simp at h; done)
    | (simp at h; subst h; obtain ⟨_, _, rfl⟩ := hx.ls_sl; exact ⟨rfl, _, _, rfl⟩)
    | (simp at h; subst h; obtain ⟨_, _, rfl⟩ := hx.es_sl; exact ⟨rfl, _, _, rfl⟩)
    | (simp at h; subst h; simp only [VR] at hx
       first
         | (subst hx; exact ⟨rfl, _, _, rfl⟩)
         | (obtain ⟨_, _, _, rfl, _⟩ := hx; exact ⟨rfl, _, _, rfl⟩)
         | (obtain ⟨_, _, rfl, _⟩ := hx; exact ⟨rfl, _, _, rfl⟩))

theorem growBy_le (n : Nat) : ∀ (r c : Nat), c ≤ n + (n + 768) / 4 + 1 → Builtin.growBy n r c ≤ n + (n + 768) / 4 + 1
  | 0, c, h => by simpa [Builtin.growBy] using h
  | r + 1, c, h => by
    simp only [Builtin.growBy]
    split
    · exact h
    · exact growBy_le n r _ (by omega)

theorem nextcap_le (n c : Nat) (h : c < n) : Builtin.nextslicecap n c ≤ 2 * n + 1000 := by
  unfold Builtin.nextslicecap
  split
  · omega
  · split
    · omega
    · have := growBy_le n 4 c (by omega); omega

theorem cut_ge (w : World) (need old : Nat) (e : TypeId) (h : need < 2 ^ 63) : need ≤ (Question.appendCap need old e).cut (w.tape w.drawn (.appendCap need old e)) := by
  simp [Question.cut]


theorem zeroCells_size (z : Array Value) (n : Nat) : (Builtin.zeroCells z n).size = n * z.size := by simp [Builtin.zeroCells]

/-- an append that makes a new row -/
theorem run_grow {elem : TypeId} {i : TypeInfo} {t t2 : TypeId} {d2 : TypeId} (hu : P.underlying t = some (.slice elem)) (hu2 : P.underlying t2 = some (.slice d2)) (hi : P.info? elem = some i) {zv : Value} (hz : i.zero = some zv)
    {a : Option Addr} {sl k : Nat} {cx : Value} {n : Nat} {old new : List Value} (hlen : ∀ w', (Builtin.lenOf cx).run P w' = .ok n w')
    (hold : ∀ w' : World, w'.heap = w.heap → (Builtin.firstCells i.size sl (.slice a sl k)).run P w' = .ok old.toArray w') (hnew : ∀ w' : World, w'.heap = w.heap → (Builtin.firstCells i.size n cx).run P w' = .ok new.toArray w')
    (hgr : k < sl + n) (hb0 : 0 < i.bytes) (hbytes : i.bytes * (sl + n + 1000) * 4 ≤ 2 ^ 47) (ty : TypeId) :
    ∃ cap arr, sl + n ≤ cap ∧ arr = old.toArray ++ new.toArray ++ Builtin.zeroCells zv.cells (cap - (sl + n)) ∧
      (Builtin.append_ #[t, t2] ty #[.slice a sl k, cx]).run P w = .ok (.slice (some ⟨w.heap.size, 0, none⟩) (sl + n) cap) (w.drew.alloc (.cells arr elem)) := by
  generalize hX : sl + n + 1000 = X at hbytes
  have hneed : X * 4 ≤ 2 ^ 47 := by
    have h1 : X ≤ i.bytes * X := Nat.le_mul_of_pos_left X hb0
    omega
  have hcap := cut_ge w (sl + n) k elem (by omega)
  refine ⟨(Question.appendCap (sl + n) k elem).cut (w.tape w.drawn (.appendCap (sl + n) k elem)), _, hcap, rfl, ?_⟩
  have hfor : (Question.appendCap (sl + n) k elem).forced = false := rfl
  have hchoose : (choose (.appendCap (sl + n) k elem)).run P w = .ok ((Question.appendCap (sl + n) k elem).cut (w.tape w.drawn (.appendCap (sl + n) k elem))) w.drew := by
    rw [run_choose, hfor]; rfl
  generalize (Question.appendCap (sl + n) k elem).cut (w.tape w.drawn (.appendCap (sl + n) k elem)) = cap at *
  have hnc := nextcap_le (sl + n) k hgr
  have hnb : ¬ (Builtin.nextslicecap (sl + n) k * i.bytes > 2 ^ 48) := by
    have h1 : Builtin.nextslicecap (sl + n) k * i.bytes ≤ (X * 4) * i.bytes := Nat.mul_le_mul_right _ (by omega)
    have h3 : (X * 4) * i.bytes = i.bytes * X * 4 := by rw [Nat.mul_comm, Nat.mul_assoc]
    omega
  have hint : ¬ (((sl + n : Nat) : Int) > IntKind.i64.max ∧ (false = true ∨ i.bytes = 0)) := by
    rintro ⟨_, h | h⟩
    · cases h
    · omega
  have hroom : ∀ w', (askRoom (cap * i.bytes)).run P w' = .ok () w' := fun w' => run_askRoom P w' _
  have hzr : ∀ w', (zeroValue elem).run P w' = .ok zv w' := fun w' => by simp [zeroValue, run_ti w' hi, hz]
  have hsz : ∀ w', (Go.sizeOf elem).run P w' = .ok i.size w' := fun w' => by simp [Go.sizeOf, run_ti w' hi]
  simp only [Builtin.append_, Sem.run_bind, run_ul w hu, run_ul w hu2, Result.andThen_ok, hsz, hlen, Sem.run_pure, Sem.run_ite, List.getElem?_toArray, Array.getElem?_toList,
    show (#[t, t2] : Array TypeId)[0]? = some t from rfl, show (#[t, t2] : Array TypeId)[1]? = some t2 from rfl, show (#[Value.slice a sl k, cx] : Array Value)[0]? = some (Value.slice a sl k) from rfl, show (#[Value.slice a sl k, cx] : Array Value)[1]? = some cx from rfl,
    run_ti w hi, Bool.false_eq_true, if_false]
  rw [if_neg (by omega)]
  have hint' : ¬ (((sl + n : Nat) : Int) > IntKind.i64.max ∧ (False ∨ i.bytes = 0)) := by
    rintro ⟨_, h | h⟩
    · exact h
    · omega
  simp only [hint', if_false, hnb, Sem.run_bind, hchoose, Result.andThen_ok, run_ti w.drew hi, hroom, hold w.drew rfl, hnew w.drew rfl, hzr, Sem.run_pure, Go.newRow, run_newObj]
  rfl

/-- an append that has room -/
theorem run_room {elem : TypeId} {i : TypeInfo} {t t2 : TypeId} {d2 : TypeId} (hu : P.underlying t = some (.slice elem)) (hu2 : P.underlying t2 = some (.slice d2)) (hi : P.info? elem = some i)
    {g o sl k : Nat} {cx : Value} {n : Nat} {new : List Value} (hlen : ∀ w', (Builtin.lenOf cx).run P w' = .ok n w')
    (hnew : (Builtin.firstCells i.size n cx).run P w = .ok new.toArray w) {w' : World} (hst : (storeCells ⟨g, o + sl * i.size, none⟩ new).run P w = .ok () w')
    (hgr : sl + n ≤ k) (ty : TypeId) :
    (Builtin.append_ #[t, t2] ty #[.slice (some ⟨g, o, none⟩) sl k, cx]).run P w = .ok (.slice (some ⟨g, o, none⟩) (sl + n) k) w' := by
  have hsz : ∀ w', (Go.sizeOf elem).run P w' = .ok i.size w' := fun w' => by simp [Go.sizeOf, run_ti w' hi]
  simp only [Builtin.append_, Sem.run_bind, run_ul w hu, run_ul w hu2, Result.andThen_ok, hsz, hlen, Sem.run_pure, Sem.run_ite, List.getElem?_toArray, Array.getElem?_toList,
    show (#[t, t2] : Array TypeId)[0]? = some t from rfl, show (#[t, t2] : Array TypeId)[1]? = some t2 from rfl, show (#[Value.slice (some ⟨g, o, none⟩) sl k, cx] : Array Value)[0]? = some (Value.slice (some ⟨g, o, none⟩) sl k) from rfl, show (#[Value.slice (some ⟨g, o, none⟩) sl k, cx] : Array Value)[1]? = some cx from rfl,
    run_ti w hi, Bool.false_eq_true, if_false]
  rw [if_pos hgr]
  simp [hnew, add_addr, hst]

/-- nothing is appended to what has no room -/
theorem run_none {elem : TypeId} {i : TypeInfo} {t t2 : TypeId} {d2 : TypeId} (hu : P.underlying t = some (.slice elem)) (hu2 : P.underlying t2 = some (.slice d2)) (hi : P.info? elem = some i)
    {a : Option Addr} {k : Nat} {cx : Value} (hlen : ∀ w', (Builtin.lenOf cx).run P w' = .ok 0 w')
    (hnew : (Builtin.firstCells i.size 0 cx).run P w = .ok #[] w) (ty : TypeId) :
    (Builtin.append_ #[t, t2] ty #[.slice a 0 k, cx]).run P w = .ok (.slice a 0 k) w := by
  have hsz : ∀ w', (Go.sizeOf elem).run P w' = .ok i.size w' := fun w' => by simp [Go.sizeOf, run_ti w' hi]
  simp only [Builtin.append_, Sem.run_bind, run_ul w hu, run_ul w hu2, Result.andThen_ok, hsz, hlen, Sem.run_pure, Sem.run_ite, List.getElem?_toArray, Array.getElem?_toList,
    show (#[t, t2] : Array TypeId)[0]? = some t from rfl, show (#[t, t2] : Array TypeId)[1]? = some t2 from rfl, show (#[Value.slice a 0 k, cx] : Array Value)[0]? = some (Value.slice a 0 k) from rfl, show (#[Value.slice a 0 k, cx] : Array Value)[1]? = some cx from rfl,
    run_ti w hi, Bool.false_eq_true, if_false]
  rw [if_pos (Nat.zero_le _)]
  cases a <;> simp [hnew, storeCells]

/-- what the joined row has -/
theorem joinRow_spec {h : AH} {b off L : Nat} {new : List AV} {r : ABlk} (hj : joinRow h b off L new = some r) :
    ∃ m z t z' t', h.bs.get b = some (.row m z t) ∧ r = .row (L + new.length) z' t' ∧
      ∀ i v, rowGet (L + new.length) z' t' i = some v → (i < L ∧ rowGet m z t (off + i) = some v) ∨ (L ≤ i ∧ new[i - L]? = some v) := by
  unfold joinRow at hj
  simp only [lenF_eq, Tr.setLF_eq] at hj
  split at hj
  · rename_i m z t hr
    unfold rowOf at hr
    split at hr
    · rename_i m' z' t' hg
      simp at hr; obtain ⟨rfl, rfl, rfl⟩ := hr
      split at hj
      · rename_i hc
        simp only [Bool.and_eq_true, Tr.beq_true] at hc
        obtain ⟨rfl, rfl⟩ := hc
        simp at hj; subst hj
        refine ⟨_, _, _, _, _, hg, rfl, fun i v hi => ?_⟩
        have hlt := rowGet_lt hi
        unfold rowGet at hi
        rw [show Nat.blt i (m' + new.length) = true by simp [Nat.blt]; omega] at hi
        simp only [Tr.get_setL] at hi
        by_cases hin : i < m'
        · left
          rw [if_neg (by omega)] at hi
          refine ⟨hin, ?_⟩
          unfold rowGet
          rw [show Nat.blt (0 + i) m' = true by simp [Nat.blt]; omega, Nat.zero_add]
          exact hi
        · right
          rw [if_pos ⟨by omega, hlt⟩] at hi
          rw [List.getElem?_eq_getElem (show i - m' < new.length by omega)] at hi ⊢
          exact ⟨by omega, by simpa using hi⟩
      · split at hj
        · rename_i old hold
          simp at hj; subst hj
          refine ⟨_, _, _, _, _, hg, rfl, fun i v hi => ?_⟩
          have hcl : ∀ (n off : Nat) (vs : List AV), h.cells b off n = some vs → vs.length = n ∧ ∀ (j : Nat) (u : AV), vs[j]? = some u → rowGet m' z' t' (off + j) = some u := by
            intro n
            induction n with
            | zero => intro off vs hv; simp [AH.cells] at hv; subst hv; simp
            | succ n ih =>
              intro off vs hv
              simp only [AH.cells] at hv
              split at hv
              · rename_i x hx
                split at hv
                · rename_i us hu
                  simp at hv; subst hv
                  obtain ⟨h1, h2⟩ := ih (off + 1) us hu
                  refine ⟨by simp [h1], fun j u hj => ?_⟩
                  cases j with
                  | zero =>
                    simp at hj; subst hj
                    unfold AH.cell at hx
                    rw [hg] at hx
                    exact hx
                  | succ j => simp at hj; have := h2 j u hj; rwa [show off + 1 + j = off + (j + 1) by omega] at this
                · simp at hv
              · simp at hv
          obtain ⟨h1, h2⟩ := hcl L off old hold
          have hlen : L + new.length = (old ++ new).length := by simp [h1]
          rw [hlen] at hi
          have hi' := rowGet_nil hi
          rw [List.getElem?_append] at hi'
          split at hi'
          · left; exact ⟨by omega, h2 i v hi'⟩
          · right; exact ⟨by omega, by rw [← h1]; exact hi'⟩
        · simp at hj
    · simp at hr
  · simp at hj

/-- a block that is used no more -/
theorem HRel.del {ρ : Rho} {h : AH} (H : HRel ρ h w) (b : Nat) : HRel ρ ⟨h.bs.del b, h.next⟩ w := by
  have key : ∀ {x : Nat} {o : ABlk}, (h.bs.del b).get x = some o → h.bs.get x = some o ∧ x ≠ b := by
    intro x o hx
    rw [Tr.get_del] at hx
    split at hx
    · cases hx
    · exact ⟨hx, by assumption⟩
  refine ⟨fun x o hx => H.blk x o (key hx).1, ?_, H.fresh, ?_, H.bound, fun x o hx hw => H.ro x o (key hx).1 hw, H.low, H.frz, fun x o cx hx => H.sep x o cx (key hx).1⟩
  · intro x y cx cy g8 gx gy qx qy hh
    refine H.inj x y cx cy g8 ?_ ?_ qx qy hh
    · intro e; apply gx; simp only [Tr.get_del]; split <;> first | rfl | exact e
    · intro e; apply gy; simp only [Tr.get_del]; split <;> first | rfl | exact e
  · intro x hx
    simp only [Tr.get_del]
    split
    · rfl
    · exact H.live x hx

/-- a block that goes on as another one -/
theorem HRel.move {ρ : Rho} {h : AH} (H : HRel ρ h w) {b : Nat} {o o' : ABlk} (hg : h.bs.get b = some o) (h8 : 8 ≤ b) {cb : Cb} (hb : ρ b = some cb) {arr arr' : Array Value} {elem : TypeId}
    (ha : w.heap[cb.blk]? = some (.cells arr elem (0, 0))) {base' tot' kn' : Nat} (hR : blkR ρ (some (.cells arr' elem (0, 0))) ⟨cb.blk, base', tot', kn'⟩ o') :
    HRel (ρ.put h.next ⟨cb.blk, base', tot', kn'⟩) ⟨Tr.set o' (h.bs.del b) h.next, h.next + 1⟩ (w.setRow cb.blk arr') := by
  have hx := Rho.put_ext (ρ := ρ) (b := h.next) (cb := ⟨cb.blk, base', tot', kn'⟩) (H.fresh _ (Nat.le_refl _))
  have hbn : b ≠ h.next := by rintro rfl; rw [H.fresh _ (Nat.le_refl _)] at hb; cases hb
  have key : ∀ {x : Nat} {o : ABlk}, x ≠ h.next → (Tr.set o' (h.bs.del b) h.next).get x = some o → h.bs.get x = some o ∧ x ≠ b := by
    intro x o hxn hx
    rw [Tr.get_set, if_neg hxn, Tr.get_del] at hx
    split at hx
    · cases hx
    · exact ⟨hx, by assumption⟩
  refine ⟨?_, ?_, ?_, ?_, ?_, ?_, Nat.le_trans H.low (Nat.le_succ _), ?_, ?_⟩
  · intro x o2 hg2 cx hcx
    by_cases e : x = h.next
    · subst e
      simp only [Tr.get_set, if_true] at hg2
      cases hg2
      rw [Rho.put_same] at hcx; cases hcx
      rw [World.setRow_get_same ha]
      exact hR.ext hx
    · obtain ⟨g2, hne⟩ := key e hg2
      rw [Rho.put_other e] at hcx
      have hneb : cx.blk ≠ cb.blk := fun hh => hne (H.inj x b cx cb h8 (by rw [g2]; simp) (by rw [hg]; simp) hcx hb hh)
      rw [World.setRow_get_other hneb]
      exact (H.blk x o2 g2 cx hcx).ext hx
  · intro x y cx cy g8 gx gy qx qy hh
    have lx : ∀ {x : Nat}, x ≠ h.next → (Tr.set o' (h.bs.del b) h.next).get x ≠ none → h.bs.get x ≠ none ∧ x ≠ b := by
      intro x hxn hx
      rw [Tr.get_set, if_neg hxn, Tr.get_del] at hx
      split at hx
      · exact absurd rfl hx
      · exact ⟨hx, by assumption⟩
    by_cases e : x = h.next
    · by_cases e' : y = h.next
      · rw [e, e']
      · exfalso
        subst e
        rw [Rho.put_same] at qx; cases qx
        obtain ⟨gy', hyb⟩ := lx e' gy
        rw [Rho.put_other e'] at qy
        exact hyb (H.inj y b cy cb h8 gy' (by rw [hg]; simp) qy hb hh.symm)
    · by_cases e' : y = h.next
      · exfalso
        subst e'
        rw [Rho.put_same] at qy; cases qy
        obtain ⟨gx', hxb⟩ := lx e gx
        rw [Rho.put_other e] at qx
        exact hxb (H.inj x b cx cb h8 gx' (by rw [hg]; simp) qx hb hh)
      · rw [Rho.put_other e] at qx; rw [Rho.put_other e'] at qy
        exact H.inj x y cx cy g8 (lx e gx).1 (lx e' gy).1 qx qy hh
  · intro x hxn
    simp only at hxn
    rw [Rho.put_other (by omega)]
    exact H.fresh x (by omega)
  · intro x hxn
    simp only at hxn ⊢
    rw [Tr.get_set, if_neg (by omega), Tr.get_del]
    split
    · rfl
    · exact H.live x (by omega)
  · intro x cx hcx
    rw [World.setRow_size]
    by_cases e : x = h.next
    · subst e; rw [Rho.put_same] at hcx; cases hcx; exact H.bound b cb hb
    · rw [Rho.put_other e] at hcx; exact H.bound x cx hcx
  · intro x o2 hg2 hw
    by_cases e : x = h.next
    · subst e; exact H.low
    · exact H.ro x o2 (key e hg2).1 hw
  · intro k arr2 hk
    have hk : ρ.fz k = some arr2 := hk
    have hne : k ≠ cb.blk := by
      rintro rfl
      have := H.sep b o cb hg h8 hb
      rw [this] at hk; cases hk
    rw [World.setRow_get_other hne]
    exact H.frz k arr2 hk
  · intro x o2 cx hg2 g8 hcx
    show ρ.fz cx.blk = none
    by_cases e : x = h.next
    · subst e
      rw [Rho.put_same] at hcx; cases hcx
      exact H.sep b o cb hg h8 hb
    · rw [Rho.put_other e] at hcx
      exact H.sep x o2 cx (key e hg2).1 g8 hcx

/-- a row whose spare cells are taken: it goes on as another one -/
theorem HRel.moveRow {ρ : Rho} {h : AH} (H : HRel ρ h w) {b : Nat} {m : Nat} {z : List AV} {t : Tr AV} (hg : h.bs.get b = some (.row m z t)) {cb : Cb} (hb : ρ b = some cb) {arr arr' : Array Value} {elem : TypeId}
    (ha : w.heap[cb.blk]? = some (.cells arr elem (0, 0))) (hs : arr'.size = cb.tot) {off n' : Nat} {z' : List AV} {t' : Tr AV} (hn : cb.base + off + n' ≤ cb.tot)
    (hz : ∀ i v, rowGet n' z' t' i = some v → ∃ c, arr'[cb.base + off + i]? = some c ∧ VR ρ v c) :
    HRel (ρ.put h.next ⟨cb.blk, cb.base + off, cb.tot, 0⟩) ⟨Tr.set (.row n' z' t') (h.bs.del b) h.next, h.next + 1⟩ (w.setRow cb.blk arr') :=
  H.move w hg (H.ro b _ hg (by intro n f hh; cases hh)) hb ha ⟨arr', elem, rfl, hs, hn, hz⟩

/-! rows of elements -/
/-- a store into an element -/
theorem HRel.putE {P : Program} {ρ : Rho} {h : AH} {w : World} {N : Nat} {own : Own} (H : HRel ρ h w) (ho : Owned N own ρ) {b j k e m : Nat} {f : Nat → List AV} (hg : h.bs.get b = some (.els e m f)) {cb : Cb} (hb : ρ b = some cb)
    (ht : cb.base + (j + 1) * e ≤ cb.kn) {vs : List AV} (hk : k + vs.length ≤ (f j).length) {cs : List Value} (hv : VRs ρ vs cs) (h1 : ∀ c ∈ cs, c.oneCell' = true) :
    ∃ w', (storeCells ⟨cb.blk, cb.base + j * e + k, none⟩ cs).run P w = .ok () w' ∧ HRel ρ ⟨Tr.set (.els e m (updE f j (splice (f j) k vs))) h.bs b, h.next⟩ w' ∧ Keep N own w w' := by
  obtain ⟨arr, elem, e1, e2, e2', e2n, e3⟩ := H.blk b _ hg cb hb
  have h8 : 8 ≤ b := H.ro b _ hg (by intro n f hh; cases hh)
  have hlen := VRs.length hv
  have ht' := ht
  rw [Nat.add_mul] at ht'
  have hfl := VRs.length (e3 j ht).1
  rw [cellsAt_len (by omega)] at hfl
  have hrun := run_storeCells_at P cb.blk (cb.base + j * e + k) elem cs 0 arr w e1 (by omega) h1
  refine ⟨_, hrun, ?_, Keep.setRow w _ (ho b cb h8 hb)⟩
  generalize harr : (arr.toList.take (cb.base + j * e + k + 0) ++ cs ++ arr.toList.drop (cb.base + j * e + k + 0 + cs.length)).toArray = arr'
  have hget : ∀ i, arr'[i]? = if cb.base + j * e + k ≤ i ∧ i < cb.base + j * e + k + cs.length then cs[i - (cb.base + j * e + k)]? else arr[i]? := by
    intro i
    rw [← harr, List.getElem?_toArray, Nat.add_zero, seg_get (by simp; omega)]
    simp
  have hsz : arr'.size = arr.size := by rw [← harr]; simp; omega
  refine H.upd hb hg h8 (by rw [World.setRow_size]; exact Nat.le_refl _) (fun k hk => World.setRow_get_other hk) ⟨arr', elem, World.setRow_get_same e1, by omega, e2', e2n, fun i hi => ?_⟩
  have hi' := hi
  rw [Nat.add_mul] at hi'
  obtain ⟨hvi, hoi⟩ := e3 i hi
  have hli := VRs.length hvi
  rw [cellsAt_len (by omega)] at hli
  unfold updE
  cases hij : Nat.beq i j with
  | true =>
    rw [Tr.beq_true] at hij; subst hij
    simp only [cond_true]
    have hsl : (splice (f i) k vs).length = e := by unfold splice; simp; omega
    have hone : ∀ c ∈ cellsAt arr' (cb.base + i * e) e, c.oneCell' = true := by
      intro c hc
      obtain ⟨q, hq⟩ := List.mem_iff_getElem?.mp hc
      have hqe : q < e := by
        have := (List.getElem?_eq_some_iff.mp hq).1
        rw [cellsAt_len (by omega)] at this; exact this
      rw [cellsAt_get hqe, hget] at hq
      split at hq
      · exact h1 c (List.mem_of_getElem? hq)
      · exact hoi c (List.mem_of_getElem? (i := q) (by rw [cellsAt_get hqe]; exact hq))
    refine ⟨VRs.of (by rw [cellsAt_len (by omega), hsl]) (fun q u hq => ?_), hone⟩
    have hqe : q < e := by rw [← hsl]; exact (List.getElem?_eq_some_iff.mp hq).1
    rw [cellsAt_get hqe, hget]
    unfold splice at hq
    rw [seg_getA (by omega)] at hq
    by_cases hin : k ≤ q ∧ q < k + vs.length
    · rw [if_pos hin] at hq
      rw [if_pos (by omega)]
      obtain ⟨c, hc, hvc⟩ := VRs.get hv hq
      exact ⟨c, by rw [show cb.base + i * e + q - (cb.base + i * e + k) = q - k by omega]; exact hc, hvc⟩
    · rw [if_neg hin] at hq
      rw [if_neg (by omega)]
      obtain ⟨c, hc, hvc⟩ := VRs.get hvi hq
      rw [cellsAt_get hqe] at hc
      exact ⟨c, hc, hvc⟩
  | false =>
    have hne : i ≠ j := by rintro rfl; rw [Nat.beq_refl] at hij; cases hij
    simp only [cond_false]
    have hsame : cellsAt arr' (cb.base + i * e) e = cellsAt arr (cb.base + i * e) e := by
      apply List.ext_getElem?
      intro q
      rcases Nat.lt_or_ge q e with hqe | hqe
      · rw [cellsAt_get hqe, cellsAt_get hqe, hget, if_neg]
        intro hh
        rcases Nat.lt_or_ge i j with hlt | hge
        · have : (i + 1) * e ≤ j * e := Nat.mul_le_mul_right _ hlt
          rw [Nat.add_mul] at this; omega
        · have : (j + 1) * e ≤ i * e := Nat.mul_le_mul_right _ (by omega)
          rw [Nat.add_mul] at this; omega
      · rw [List.getElem?_eq_none (by rw [cellsAt_len (by omega)]; exact hqe), List.getElem?_eq_none (by rw [cellsAt_len (by omega)]; exact hqe)]
    rw [hsame]
    exact ⟨hvi, hoi⟩

theorem storeA_sound {N : Nat} {own : Own} {ρ : Rho} {h h' : AH} (H : HRel ρ h w) (hO : Owned N own ρ) {f : Operand → Option AV} {e : Operand → Value} (hf : EvR ρ f e) {o : Oper} {t : TypeId} {a x : Operand} (ho : o.op = .store t a x)
    {p v : AV} (ha : f a = some p) (hx : f x = some v) (hs : storeA P h t p v = some h') : Left P N h.next own ρ h' undefA w (execOp e o) := by
  unfold storeA at hs
  split at hs
  · exact store_sound w H hO hf ho ha hx hs
  · rename_i b j k e2
    split at hs
    · rename_i e' mm g hg
      split at hs
      · rename_i n hn
        split at hs
        · rename_i hc
          simp only [Bool.and_eq_true, Tr.beq_true] at hc
          obtain ⟨rfl, hc1, hc2⟩ := hc
          have hr := hf _ _ ha
          simp only [VR] at hr
          obtain ⟨cb, hb, he, ht⟩ := hr
          have hv := (hf _ _ hx).cells
          have hl := VRs.length hv
          have fin : ∀ {g' : Nat → List AV}, k + v.cells.length ≤ (g j).length → updE g j (splice (g j) k v.cells) = g' → h' = ⟨Tr.set (.els e2 mm g') h.bs b, h.next⟩ → Left P N h.next own ρ h' undefA w (execOp e o) := by
            intro g' hc3 hg' hh
            subst hg'; subst hh
            obtain ⟨w', h1, h2, h3⟩ := HRel.putE (P := P) H hO hg hb ht hc3 hv (hv.of_all hc2)
            refine ⟨ρ, undef, w', .skip, ?_, .inr ⟨rfl, rfl⟩, by simp [undefA, VR, VRs, undef], h2, Ext2.refl _ ρ, h3, hO⟩
            simp at hl
            have : (e x).cells.size = n := by omega
            simp [execOp, ho, Instr.storeAt, he, Instr.sureAddr, storeVar, run_sz w hn, this, h1]
          split at hs
          · rename_i hk
            simp only [Bool.and_eq_true, Tr.beq_true] at hk
            obtain ⟨rfl, rfl⟩ := hk
            obtain ⟨arr, elem, e1, e2, e2', e2n, e3⟩ := H.blk b _ hg cb hb
            have hfl := VRs.length (e3 j ht).1
            have ht' := ht
            rw [Nat.add_mul] at ht'
            rw [cellsAt_len (by omega)] at hfl
            simp at hs
            refine fin (g' := updE g j v.cells) (by omega) ?_ hs.symm
            congr 1
            unfold splice
            rw [show 0 + v.cells.length = (g j).length by omega, List.drop_length]
            simp
          · split at hs
            · rename_i hc3
              simp only [Nat.ble_eq] at hc3
              simp at hs
              exact fin hc3 rfl hs.symm
            · simp at hs
        · simp at hs
      · simp at hs
    · simp at hs
  · simp at hs
end
end Go.EV
