/- Own text of this claim: an abstract machine over the given program form, and what follows from it. No condition. -/
import Derived.Test.YtekijepgmmemiaaGreatEv8e
set_option linter.unusedVariables false
set_option linter.unusedSimpArgs false
set_option maxHeartbeats 1000000
namespace Go.EV
section
variable {P : Program} (w : World)

theorem copy_rel {N : Nat} {own : Own} {ρ : Rho} {h h' : AH} (H : HRel ρ h w) (hO : Owned N own ρ) {t : TypeId} {d s v : AV} {cd cs : Value} (hd : VR ρ d cd) (hs : VR ρ s cs)
    (ha : copyV P h t d s = some (v, h')) (at' : Array TypeId) (hat : at'[0]? = some t) (ty : TypeId) :
    ∃ ρ' c w', (Builtin.copy_ at' ty #[cd, cs]).run P w = .ok c w' ∧ VR ρ' v c ∧ HRel ρ' h' w' ∧ Ext2 h.next ρ ρ' ∧ Keep N own w w' ∧ Owned N own ρ' := by
  unfold copyV at ha
  split at ha
  · rename_i elem hu
    split at ha
    · rename_i sz dl l hsz hdl hl
      obtain ⟨d1, da, dk, rfl⟩ := lenA_rel (P := P) w hdl hd
      obtain ⟨s1, _⟩ := lenA_rel (P := P) w hl hs
      split at ha
      · rename_i cells hsrc
        obtain ⟨ncs, hnr, hnv⟩ := run_firstCells (P := P) w H hsrc hs
        split at ha
        · rename_i hna
          have hone := hnv.of_all hna
          split at ha
          · rename_i b off len cap esz
            simp only [VR] at hd
            obtain ⟨cb, k, hb, he, _⟩ := hd
            cases he
            split at ha
            · rename_i h2 hput
              simp only [Option.some.injEq, Prod.mk.injEq] at ha; obtain ⟨rfl, rfl⟩ := ha
              obtain ⟨w', r1, r2, r3⟩ := H.put (P := P) hO hput hb hnv hone
              refine ⟨ρ, .int .i64 ((Nat.min l dl : Nat) : Int), w', ?_, by simp only [VR], r2, Ext2.refl _ ρ, r3, hO⟩
              simp [Builtin.copy_, hat, run_ul w hu, s1, run_sz w hsz, hnr w rfl, r1, goInt]
            · simp at ha
          · simp only [VR] at hd
            cases hd
            simp only [Option.some.injEq, Prod.mk.injEq] at ha; obtain ⟨rfl, rfl⟩ := ha
            refine ⟨ρ, .int .i64 ((Nat.min l 0 : Nat) : Int), w, ?_, by simp only [VR], H, Ext2.refl _ ρ, Keep.refl _ _ w, hO⟩
            have hnr1 := hnr w rfl
            rw [show Nat.min l 0 = 0 from Nat.min_zero l] at hnr1
            simp [Builtin.copy_, hat, run_ul w hu, s1, run_sz w hsz, hnr1, goInt]
          · simp only [VR] at hd
            obtain ⟨a, k, he, _⟩ := hd
            cases he
            split at ha
            · simp only [Option.some.injEq, Prod.mk.injEq] at ha; obtain ⟨rfl, rfl⟩ := ha
              simp only [VRs] at hnv; subst hnv
              refine ⟨ρ, .int .i64 ((Nat.min l 0 : Nat) : Int), w, ?_, by simp only [VR], H, Ext2.refl _ ρ, Keep.refl _ _ w, hO⟩
              have hnr1 := hnr w rfl
              rw [show Nat.min l 0 = 0 from Nat.min_zero l] at hnr1
              simp [Builtin.copy_, hat, run_ul w hu, s1, run_sz w hsz, hnr1, goInt, storeCells]
            · simp at ha
          · simp at ha
        · simp at ha
      · simp at ha
    · simp at ha
  · simp at ha

/-! ### nothing again -/
theorem repL_len {n : Nat} {z : List AV} : (repL n z).length = n * z.length := by
  induction n with
  | zero => rw [Nat.zero_mul]; rfl
  | succ n ih =>
    show (z ++ repL n z).length = _
    rw [List.length_append, ih, Nat.succ_mul]; omega
theorem repL_get {z : List AV} : ∀ {n i : Nat}, i < n * z.length → (repL n z)[i]? = z[i % z.length]?
  | 0, i, h => by simp at h
  | n + 1, i, h => by
    show (z ++ repL n z)[i]? = _
    rw [Nat.succ_mul] at h
    rcases Nat.lt_or_ge i z.length with h1 | h1
    · rw [List.getElem?_append_left h1, Nat.mod_eq_of_lt h1]
    · rw [List.getElem?_append_right h1, repL_get (by omega), Nat.mod_eq_sub_mod h1]
theorem repL_all {n : Nat} {z : List AV} {p : AV → Bool} (h : z.all p = true) : (repL n z).all p = true := by
  induction n with
  | zero => rfl
  | succ n ih => show (z ++ repL n z).all p = true; rw [List.all_append, h, ih]; rfl
theorem repL_piece {z : List AV} : ∀ {n q : Nat}, q < n → ((repL n z).drop (q * z.length)).take z.length = z
  | n + 1, 0, _ => by show ((z ++ repL n z).drop (0 * z.length)).take z.length = z; simp
  | n + 1, q + 1, h => by
    show ((z ++ repL n z).drop ((q + 1) * z.length)).take z.length = z
    rw [Nat.succ_mul, Nat.add_comm, ← List.drop_drop, List.drop_left]
    exact repL_piece (by omega)
theorem zero_cells {ρ : Rho} {z : List AV} {zv : Value} (hv : VRs ρ z zv.cells.toList) (n : Nat) : VRs ρ (repL n z) (Builtin.zeroCells zv.cells n).toList ∧ (Builtin.zeroCells zv.cells n).toList.length = n * z.length := by
  have hl := VRs.length hv
  simp at hl
  have hlen : (Builtin.zeroCells zv.cells n).toList.length = n * z.length := by simp [Builtin.zeroCells, hl]
  refine ⟨VRs.of (by rw [hlen, repL_len]) (fun i v hi => ?_), hlen⟩
  have hin : i < n * z.length := by rw [← repL_len]; exact (List.getElem?_eq_some_iff.mp hi).1
  rw [repL_get hin] at hi
  obtain ⟨c, hc, hvc⟩ := VRs.get hv hi
  refine ⟨c, ?_, hvc⟩
  have hz : 0 < z.length := Nat.pos_of_ne_zero (by rintro h; rw [h] at hin; simp at hin)
  have hm : i % zv.cells.size < zv.cells.size := Nat.mod_lt _ (by rw [hl]; exact hz)
  rw [Array.getElem?_toList]
  unfold Builtin.zeroCells
  rw [Array.getElem?_map, Array.getElem?_range, if_pos (by rw [hl]; exact hin), Option.map_some, getElem!_pos zv.cells _ hm]
  rw [← hl] at hc
  simpa [hm] using hc
theorem clear_rel {N : Nat} {own : Own} {ρ : Rho} {h h' : AH} (H : HRel ρ h w) (hO : Owned N own ρ) {t : TypeId} {x : AV} {cx : Value} (hx : VR ρ x cx) (ha : clearA P h t x = some h') (at' : Array TypeId) (hat : at'[0]? = some t) (ty : TypeId) :
    ∃ w', (Builtin.clear_ at' ty #[cx]).run P w = .ok undef w' ∧ HRel ρ h' w' ∧ Keep N own w w' := by
  have zr : ∀ {elem : TypeId} {z : List AV}, zeroOf P elem = some z → ∃ zv, (zeroValue elem).run P w = .ok zv w ∧ VRs ρ z zv.cells.toList := by
    intro elem z hz
    unfold zeroOf at hz
    split at hz
    · rename_i i hi
      split at hz
      · rename_i zv hzv
        exact ⟨zv, by simp [zeroValue, run_ti w hi, hzv], cellsOfValue_rel hz⟩
      · cases hz
    · cases hz
  have same : h' = h → (∃ ty', P.underlying t = some ty') ∨ True → (Builtin.clear_ at' ty #[cx]).run P w = .ok undef w → ∃ w', (Builtin.clear_ at' ty #[cx]).run P w = .ok undef w' ∧ HRel ρ h' w' ∧ Keep N own w w' := by
    rintro rfl _ hr
    exact ⟨w, hr, H, Keep.refl _ _ w⟩
  unfold clearA at ha
  split at ha
  · split at ha
    · rename_i elem hu
      simp only [Option.some.injEq] at ha; subst ha
      simp only [VR] at hx; subst hx
      exact ⟨w, by simp [Builtin.clear_, hat, run_ul w hu, undef], H, Keep.refl _ _ w⟩
    · cases ha
  · split at ha
    · rename_i elem hu
      simp only [Option.some.injEq] at ha; subst ha
      simp only [VR] at hx
      obtain ⟨a, k, rfl, _⟩ := hx
      exact ⟨w, by simp [Builtin.clear_, hat, run_ul w hu, undef], H, Keep.refl _ _ w⟩
    · cases ha
  · rename_i b j n cap e
    split at ha
    · rename_i elem hu
      split at ha
      · rename_i z e' m f hz hb
        split at ha
        · rename_i hc
          simp only [Bool.and_eq_true, Tr.beq_true] at hc
          obtain ⟨rfl, hc2, hc3, hc4⟩ := hc
          have hc3 : 0 < e := by simp [Nat.blt] at hc3; omega
          simp only [Option.some.injEq] at ha; subst ha
          obtain ⟨zv, z1, z2⟩ := zr hz
          obtain ⟨k1, k2⟩ := zero_cells z2 n
          simp only [VR] at hx
          rcases hx with ⟨rfl, rfl, hem⟩ | ⟨cb, k, hcb, rfl, hlk, hkn, htot, hcp⟩
          · have hov : overE j 0 f (fun _ => z) = f := by
              funext i
              unfold overE
              rw [show (Nat.ble j i && Nat.blt i (j + 0)) = false by rw [Bool.eq_false_iff]; intro h; simp [Nat.blt] at h; omega]
              rfl
            rw [hov]
            refine ⟨w, ?_, H.same_set hb, Keep.refl _ _ w⟩
            rcases hem with h | ⟨a, k', h, _⟩
            · cases h
              simp [Builtin.clear_, hat, run_ul w hu, undef]
            · cases h
              simp [Builtin.clear_, hat, run_ul w hu, undef]
          · rcases Nat.eq_zero_or_pos n with h0 | h0
            · subst h0
              have hov : overE j 0 f (fun _ => z) = f := by
                funext i
                unfold overE
                rw [show (Nat.ble j i && Nat.blt i (j + 0)) = false by rw [Bool.eq_false_iff]; intro h; simp [Nat.blt] at h; omega]
                rfl
              rw [hov]
              exact ⟨w, by simp [Builtin.clear_, hat, run_ul w hu, undef], H.same_set hb, Keep.refl _ _ w⟩
            obtain ⟨arr, el, e1, e2', e3', e3n, e3⟩ := H.blk b _ hb cb hcb
            have h8 : 8 ≤ b := H.ro b _ hb (by intro n f hh; cases hh)
            have hfit : cb.base + j * e + n * e ≤ arr.size := by
              rw [Nat.add_mul] at hkn; omega
            have hon : ones (Builtin.zeroCells zv.cells n).toList := k1.of_all (repL_all hc4)
            have hst := run_storeCells_at P cb.blk (cb.base + j * e) el (Builtin.zeroCells zv.cells n).toList 0 arr w e1 (by rw [k2, hc2]; omega) hon
            rw [Nat.add_zero] at hst
            have r2 : (Builtin.zeroCells zv.cells n).toList.length = n * e := by rw [k2, hc2]
            have r4 : ∀ q, q < n → VRs ρ z (((Builtin.zeroCells zv.cells n).toList.drop (q * e)).take e) := by
              intro q hq
              have := (k1.drop (q * e)).take e
              rwa [← hc2, repL_piece hq, hc2] at this
            have hpc : ∀ q, cb.base + (q + 1) * e ≤ cb.kn → _ := fun q hq => over_piece (f := f) (g := fun _ => z) (arr := arr) (base := cb.base) (q := j) (n := n) (e := e) (i := q) r2 hfit hon r4 (by omega) hc3 (fun _ => e3 q hq)
            have hsz' : (arr.toList.take (cb.base + j * e) ++ (Builtin.zeroCells zv.cells n).toList ++ arr.toList.drop (cb.base + j * e + (Builtin.zeroCells zv.cells n).toList.length)).toArray.size = cb.tot := by simp only [List.size_toArray, List.length_append, List.length_take, List.length_drop, r2, Array.length_toList]; omega
            generalize (arr.toList.take (cb.base + j * e) ++ (Builtin.zeroCells zv.cells n).toList ++ arr.toList.drop (cb.base + j * e + (Builtin.zeroCells zv.cells n).toList.length)).toArray = arr' at hst hpc hsz'
            refine ⟨w.setRow cb.blk arr', ?_, H.upd hcb hb h8 (by rw [World.setRow_size]; exact Nat.le_refl _) (fun k hk => World.setRow_get_other hk) ⟨arr', el, World.setRow_get_same e1, hsz', e3', e3n, hpc⟩, Keep.setRow w _ (hO b cb h8 hcb)⟩
            obtain ⟨n, rfl⟩ : ∃ q, n = q + 1 := ⟨n - 1, by omega⟩
            simp [Builtin.clear_, hat, run_ul w hu, z1, hst, undef]
        · cases ha
      · cases ha
    · cases ha
  · rename_i b off len cap e
    split at ha
    · rename_i elem hu
      split at ha
      · rename_i z hz
        split at ha
        · rename_i hna
          obtain ⟨zv, z1, z2⟩ := zr hz
          obtain ⟨k1, k2⟩ := zero_cells z2 len
          simp only [VR] at hx
          obtain ⟨cb, k, hb, rfl, hlk, hkt, hcp⟩ := hx
          obtain ⟨w', r1, r2, r3⟩ := H.put (P := P) hO ha hb k1 (k1.of_all (repL_all hna))
          rcases Nat.eq_zero_or_pos len with h0 | h0
          · subst h0
            have : (Builtin.zeroCells zv.cells 0).toList = [] := by simp [Builtin.zeroCells]
            rw [this] at r1
            simp [storeCells] at r1
            subst r1
            exact ⟨w, by simp [Builtin.clear_, hat, run_ul w hu, undef], r2, r3⟩
          · refine ⟨w', ?_, r2, r3⟩
            obtain ⟨n, rfl⟩ : ∃ q, len = q + 1 := ⟨len - 1, by omega⟩
            simp [Builtin.clear_, hat, run_ul w hu, z1, r1, undef]
        · cases ha
      · cases ha
    · cases ha
  · cases ha

/-! ### maps -/
theorem zeroV_rel {ρ : Rho} {t : TypeId} {z : AV} (h : zeroV P t = some z) : ∃ v, (zeroValue t).run P w = .ok v w ∧ VR ρ z v := by
  unfold zeroV at h
  split at h
  · rename_i i hi
    split at h
    · rename_i cs hz
      split at h
      · rename_i l hl
        simp at h; subst h
        refine ⟨.agg cs, by simp [zeroValue, run_ti w hi, hz], ?_⟩
        simp only [VR]
        refine ⟨cs, rfl, ?_⟩
        have := allOf_rel (ρ := ρ) (e := id) (fun a u hu => ofValue_rel hu) hl
        simpa using this
      · simp at h
    · rename_i v hv hz
      exact ⟨v, by simp [zeroValue, run_ti w hi, hz], ofValue_rel h⟩
    · simp at h
  · simp at h

theorem keyFits_kd {t : TypeId} {k : AV} (h : keyFits P t k = true) : ∃ kd, P.underlying t = some kd ∧ ((∃ x, kd = .int x) ∧ tagA k = 0 ∨ kd = .string ∧ tagA k = 2 ∨ kd = .bool ∧ tagA k = 1) := by
  unfold keyFits at h
  split at h
  · rename_i x _ _ hu; exact ⟨_, hu, .inl ⟨⟨x, rfl⟩, rfl⟩⟩
  · rename_i hu; exact ⟨_, hu, .inr (.inl ⟨rfl, rfl⟩)⟩
  · rename_i hu; exact ⟨_, hu, .inr (.inr ⟨rfl, rfl⟩)⟩
  · cases h

theorem key_sameNow {ρ : Rho} {kd : TypeDesc} {k k' : AV} {ck ck' : Value} (hk : VR ρ k ck) (hk' : VR ρ k' ck') {b : Bool} (h : eqCell k k' = some b)
    (hfit : (∃ x, kd = .int x) ∧ tagA k = 0 ∨ kd = .string ∧ tagA k = 2 ∨ kd = .bool ∧ tagA k = 1) : Instr.sameNow kd ck ck' = some b := by
  unfold eqCell at h
  split at h
  · split at h
    · rename_i hkk
      simp only [decide_eq_true_eq] at hkk; subst hkk
      obtain rfl := VR_int hk
      obtain rfl := VR_int hk'
      simp at h; subst h
      rcases hfit with ⟨⟨x, rfl⟩, _⟩ | ⟨_, h2⟩ | ⟨_, h2⟩
      · simp [Instr.sameNow]
      · simp [tagA] at h2
      · simp [tagA] at h2
    · simp at h
  · obtain rfl := VR_bool hk
    obtain rfl := VR_bool hk'
    simp at h; subst h
    rcases hfit with ⟨⟨x, rfl⟩, h2⟩ | ⟨_, h2⟩ | ⟨rfl, h2⟩
    · simp [tagA] at h2
    · simp [tagA] at h2
    · simp [Instr.sameNow]
  · obtain rfl := VR_str hk
    obtain rfl := VR_str hk'
    simp at h; subst h
    rcases hfit with ⟨⟨x, rfl⟩, h2⟩ | ⟨rfl, h2⟩ | ⟨_, h2⟩
    · simp [tagA] at h2
    · simp [Instr.sameNow]
    · simp [tagA] at h2
  · simp at h

theorem findK_rel {ρ : Rho} {kd : TypeDesc} {k : AV} {ck : Value} (hk : VR ρ k ck)
    (hfit : (∃ x, kd = .int x) ∧ tagA k = 0 ∨ kd = .string ∧ tagA k = 2 ∨ kd = .bool ∧ tagA k = 1) :
    ∀ {es : List (AV × AV × Nat)} {ces : List MapEntry} {i : Nat} {r : Option (Nat × AV)}, mapR ρ es ces → findK eqCell k es i = some r →
      (r = none ∧ Instr.findNow kd ck ces i = some none) ∨ (∃ j v cv, r = some (j, v) ∧ Instr.findNow kd ck ces i = some (some (j, cv)) ∧ VR ρ v cv)
  | [], ces, i, r, hm, h => by
    simp only [mapR] at hm; subst hm
    simp [findK] at h; subst h
    exact .inl ⟨rfl, rfl⟩
  | (k', v, n) :: es, ces, i, r, hm, h => by
    simp only [mapR] at hm
    obtain ⟨e, rest, rfl, m1, m2, m3, m4⟩ := hm
    simp only [findK] at h
    split at h
    · rename_i he
      simp at h; subst h
      have := key_sameNow hk m1 he hfit
      exact .inr ⟨i, v, e.val, rfl, by simp [Instr.findNow, this], m2⟩
    · rename_i he
      have := key_sameNow hk m1 he hfit
      rcases findK_rel hk hfit m4 h with ⟨h1, h2⟩ | ⟨j, u, cu, h1, h2, h3⟩
      · exact .inl ⟨h1, by simp [Instr.findNow, this, h2]⟩
      · exact .inr ⟨j, u, cu, h1, by simp [Instr.findNow, this, h2], h3⟩
    · simp at h

theorem run_checkKey (n : Nat) {key : TypeId} {kd : TypeDesc} (hu : P.underlying key = some kd) (hfit : (∃ x, kd = .int x) ∨ kd = .string ∨ kd = .bool) (b : Bool) (ck : Value) :
    (Instr.checkKey b (n + 1) key ck).run P w = .ok () w := by
  simp only [Instr.checkKey, Sem.run_bind, run_ul w hu, Result.andThen_ok]
  rcases hfit with ⟨x, rfl⟩ | rfl | rfl <;> rfl

theorem fit_or {kd : TypeDesc} {k : AV} (hfit : (∃ x, kd = .int x) ∧ tagA k = 0 ∨ kd = .string ∧ tagA k = 2 ∨ kd = .bool ∧ tagA k = 1) : (∃ x, kd = .int x) ∨ kd = .string ∨ kd = .bool := by
  rcases hfit with ⟨h, _⟩ | ⟨h, _⟩ | ⟨h, _⟩
  · exact .inl h
  · exact .inr (.inl h)
  · exact .inr (.inr h)

theorem run_checkFs (n : Nat) {cs : List AV} {ρ : Rho} {arr : Array Value} (ha : VRs ρ cs arr.toList) (b : Bool) : ∀ {fs : List Field}, plainFs P cs fs = true →
    (forIn (m := Sem) fs PUnit.unit (fun f _ => do
      if f.name ≠ "_" then
        Instr.checkKey b (n + 1) f.type (← Go.part f.type arr f.offset)
      pure (ForInStep.yield PUnit.unit))).run P w = .ok PUnit.unit w
  | [], _ => rfl
  | fd :: fs, h => by
    simp only [plainFs] at h
    split at h
    · rename_i v hp hv
      obtain ⟨c, r1, _⟩ := run_part (P := P) w hv ha
      have ih := run_checkFs n ha b h
      have hk : ∀ c, (Instr.checkKey b (n + 1) fd.type c).run P w = .ok () w := by
        intro c
        unfold plainK at hp
        split at hp
        · rename_i hu; exact run_checkKey w n hu (.inl ⟨_, rfl⟩) b c
        · rename_i hu; exact run_checkKey w n hu (.inr (.inl rfl)) b c
        · rename_i hu; exact run_checkKey w n hu (.inr (.inr rfl)) b c
        · cases hp
      by_cases hn : fd.name = "_"
      · simp [List.forIn_cons, hn]; simpa using ih
      · simp [List.forIn_cons, hn, r1, hk]; simpa using ih
    · cases h
/-- a key is found, or is not there -/
theorem key_rel {ρ : Rho} {key : TypeId} {k : AV} {ck : Value} (hk : VR ρ k ck) {q : AV → AV → Option Bool} (h : keyQ P key k = some q) :
    (∀ b, (Instr.checkKey b 10000 key ck).run P w = .ok () w) ∧
      ∀ {es : List (AV × AV × Nat)} {ces : List MapEntry} {r : Option (Nat × AV)}, mapR ρ es ces → findK q k es 0 = some r →
      (r = none ∧ (Instr.findKey key ck ces).run P w = .ok none w) ∨ (∃ j v cv, r = some (j, v) ∧ (Instr.findKey key ck ces).run P w = .ok (some (j, cv)) w ∧ VR ρ v cv) := by
  unfold keyQ at h
  split at h
  · rename_i hkf
    simp only [Option.some.injEq] at h; subst h
    obtain ⟨kd, hkd, hfit⟩ := keyFits_kd hkf
    refine ⟨fun b => run_checkKey w 9999 hkd (fit_or hfit) b ck, fun hm hf => ?_⟩
    rcases findK_rel hk hfit hm hf with ⟨h1, h2⟩ | ⟨j, v, cv, h1, h2, h3⟩
    · exact .inl ⟨h1, by simp [Instr.findKey, run_ul w hkd, h2]⟩
    · exact .inr ⟨j, v, cv, h1, by simp [Instr.findKey, run_ul w hkd, h2], h3⟩
  · split at h
    · rename_i hka
      simp only [Option.some.injEq] at h; subst h
      unfold keyAgg at hka
      split at hka
      · rename_i fs cs hu _
        simp only [VR] at hk
        have hk0 := hk
        obtain ⟨as, rfl, hcs⟩ := hk
        have hkv : VR ρ (.agg cs) (.agg as) := by simp only [VR]; exact ⟨as, rfl, hcs⟩
        refine ⟨fun b => ?_, fun {es ces r} hm hf => ?_⟩
        · have := run_checkFs (P := P) w 9998 hcs b hka
          show (Instr.checkKey b (9998 + 1 + 1) key (.agg as)).run P w = _
          rw [Instr.checkKey, Sem.run_bind, run_ul w hu, Result.andThen_ok]
          simp only []
          rw [← Array.forIn_toList]
          generalize 9998 + 1 = n0 at *
          rw [Sem.run_bind, this]; rfl
        · have ask : ∀ (es : List (AV × AV × Nat)) (ces : List MapEntry) (i : Nat) (r : Option (Nat × AV)), mapR ρ es ces → findK (eqIn P 9 key) (.agg cs) es i = some r →
              (r = none ∧ (Instr.findAsking key (.agg as) ces i).run P w = .ok none w) ∨ (∃ j v cv, r = some (j, v) ∧ (Instr.findAsking key (.agg as) ces i).run P w = .ok (some (j, cv)) w ∧ VR ρ v cv) := by
            intro es
            induction es with
            | nil =>
              intro ces i r hm hf
              simp only [mapR] at hm; subst hm
              simp [findK] at hf; subst hf
              exact .inl ⟨rfl, by simp [Instr.findAsking]⟩
            | cons e es ih =>
              obtain ⟨k', v, n⟩ := e
              intro ces i r hm hf
              simp only [mapR] at hm
              obtain ⟨e, rest, rfl, m1, m2, m3, m4⟩ := hm
              simp only [findK] at hf
              split at hf
              · rename_i he
                have heq : (Op.equal key (.agg as) e.key).run P w = .ok true w := eqIn_rel w 9 9991 he hkv m1
                simp at hf; subst hf
                exact .inr ⟨i, v, e.val, rfl, by simp [Instr.findAsking, heq], m2⟩
              · rename_i he
                have heq : (Op.equal key (.agg as) e.key).run P w = .ok false w := eqIn_rel w 9 9991 he hkv m1
                rcases ih rest (i + 1) r m4 hf with ⟨h1, h2⟩ | ⟨j, u, cu, h1, h2, h3⟩
                · exact .inl ⟨h1, by simp [Instr.findAsking, heq, h2]⟩
                · exact .inr ⟨j, u, cu, h1, by simp [Instr.findAsking, heq, h2], h3⟩
              · cases hf
          cases ces with
          | nil =>
            cases es with
            | nil =>
              simp [findK] at hf; subst hf
              exact .inl ⟨rfl, by simp [Instr.findKey, run_ul w hu, Instr.findNow]⟩
            | cons e es => obtain ⟨k', v, n⟩ := e; simp [mapR] at hm
          | cons e rest =>
            rcases ask es (e :: rest) 0 r hm hf with ⟨h1, h2⟩ | ⟨j, v, cv, h1, h2, h3⟩
            · exact .inl ⟨h1, by simp [Instr.findKey, run_ul w hu, Instr.findNow, Instr.sameNow, h2]⟩
            · exact .inr ⟨j, v, cv, h1, by simp [Instr.findKey, run_ul w hu, Instr.findNow, Instr.sameNow, h2], h3⟩
      · cases hka
    · cases h

theorem withOk_rel {ρ : Rho} {v : AV} {cv : Value} (hv : VR ρ v cv) (ok is : Bool) : VR ρ (withOk ok v is) (if ok then .tuple #[cv, .bool is] else cv) := by
  cases ok
  · simpa [withOk] using hv
  · simp only [withOk, if_true, VR]
    exact ⟨_, rfl, by simp only [VRs]; exact ⟨_, _, rfl, hv, _, _, rfl, by simp only [VR], rfl⟩⟩

theorem lookup_rel {ρ : Rho} {h : AH} (H : HRel ρ h w) {t : TypeId} {m k v : AV} {cm ck : Value} {ok : Bool} (hm : VR ρ m cm) (hk : VR ρ k ck) (hl : lookupV P h t m k ok = some v) :
    ∃ c, (Instr.lookup t cm ck ok).run P w = .ok c w ∧ VR ρ v c := by
  unfold lookupV at hl
  split at hl
  · rename_i key elem hu
    split at hl
    · rename_i q z hkf hz
      obtain ⟨hck, hfk⟩ := key_rel (P := P) w hk hkf
      obtain ⟨zv, hzr, hzv⟩ := zeroV_rel (P := P) (ρ := ρ) w hz
      split at hl
      · simp at hl; subst hl
        simp only [VR] at hm; subst hm
        refine ⟨_, ?_, withOk_rel hzv ok false⟩
        rcases hfk (es := []) (ces := []) (r := none) (by simp [mapR]) (by simp [findK]) with ⟨_, h2⟩ | ⟨_, _, _, h1, _⟩
        · cases ok <;> simp [Instr.lookup, run_ul w hu, hck, h2, hzr]
        · cases h1
      · rename_i r
        simp only [VR] at hm
        obtain ⟨cb, hb, rfl⟩ := hm
        split at hl
        · rename_i es clock hg
          obtain ⟨ces, hh, hmr⟩ := H.maps r es clock hg cb hb
          have hget : (getObj cb.blk).run P w = .ok (.map ces clock) w := by simp [getObj, Sem.run, hh]
          split at hl
          · rename_i j u hf
            simp at hl; subst hl
            rcases hfk hmr hf with ⟨h1, _⟩ | ⟨j', u', cu, h1, h2, h3⟩
            · cases h1
            · cases h1
              refine ⟨_, ?_, withOk_rel h3 ok true⟩
              cases ok <;> simp [Instr.lookup, run_ul w hu, hget, hck, h2]
          · rename_i hf
            simp at hl; subst hl
            rcases hfk hmr hf with ⟨_, h2⟩ | ⟨_, _, _, h1, _⟩
            · refine ⟨_, ?_, withOk_rel hzv ok false⟩
              cases ok <;> simp [Instr.lookup, run_ul w hu, hget, hck, h2, hzr]
            · cases h1
          · simp at hl
        · simp at hl
      · simp at hl
    · simp at hl
  · simp at hl

/-- another map in a block -/
theorem HRel.putMap {N : Nat} {own : Own} {ρ : Rho} {h : AH} {w : World} (H : HRel ρ h w) (hO : Owned N own ρ) {b : Nat} {es es' : List (AV × AV × Nat)} {k k' : Nat} (hg : h.bs.get b = some (.map es k)) {cb : Cb} (hb : ρ b = some cb)
    {ces : Array MapEntry} (hm : mapR ρ es' ces.toList) :
    HRel ρ ⟨Tr.set (.map es' k') h.bs b, h.next⟩ { w with heap := w.heap.setIfInBounds cb.blk (.map ces k') } ∧ Keep N own w { w with heap := w.heap.setIfInBounds cb.blk (.map ces k') } := by
  have hbd := H.bound b cb hb
  refine ⟨H.upd hb hg (H.ro b _ hg (by intro n f hh; cases hh)) (by simp) (fun k hk => by simp only []; rw [Array.getElem?_setIfInBounds_ne (by omega)]) ⟨ces, by simp only []; rw [Array.getElem?_setIfInBounds_self_of_lt hbd], hm⟩, ⟨rfl, rfl, rfl, by simp, fun x hx ho => ?_⟩⟩
  · simp only []
    rw [Array.getElem?_setIfInBounds_ne]
    rintro rfl
    rcases hO b cb (H.ro b _ hg (by intro n f hh; cases hh)) hb with h1 | h1
    · omega
    · exact ho h1

theorem mapR.upd {ρ : Rho} {kd : TypeDesc} {k v : AV} {ck cv : Value} (hk : VR ρ k ck) (hv : VR ρ v cv) : ∀ {es : List (AV × AV × Nat)} {ces : List MapEntry} (i : Nat), mapR ρ es ces →
    mapR ρ (updK k v es i) (ces.modify i fun e => { e with key := ck, val := cv })
  | [], ces, i, hm => by simp only [mapR] at hm; subst hm; cases i <;> simp [updK, mapR]
  | (k', v', n) :: es, ces, i, hm => by
    simp only [mapR] at hm
    obtain ⟨e, rest, rfl, m1, m2, m3, m4⟩ := hm
    cases i with
    | zero => simp only [updK, mapR]; exact ⟨_, _, rfl, hk, hv, m3, m4⟩
    | succ i => simp only [updK, mapR]; exact ⟨e, _, rfl, m1, m2, m3, mapR.upd (kd := kd) hk hv i m4⟩

theorem mapR.push {ρ : Rho} {k v : AV} {ck cv : Value} {c : Nat} (hk : VR ρ k ck) (hv : VR ρ v cv) : ∀ {es : List (AV × AV × Nat)} {ces : List MapEntry}, mapR ρ es ces →
    mapR ρ (es ++ [(k, v, c)]) (ces ++ [{ key := ck, val := cv, born := c }])
  | [], ces, hm => by simp only [mapR] at hm; subst hm; simp only [List.nil_append, mapR]; exact ⟨_, _, rfl, hk, hv, rfl, rfl⟩
  | (k', v', n) :: es, ces, hm => by
    simp only [mapR] at hm
    obtain ⟨e, rest, rfl, m1, m2, m3, m4⟩ := hm
    simp only [List.cons_append, mapR]
    exact ⟨e, _, rfl, m1, m2, m3, mapR.push hk hv m4⟩

/-- the key that is found is the key that is asked -/
theorem findK_key {ρ : Rho} {kd : TypeDesc} {k : AV} {ck : Value} (hk : VR ρ k ck) :
    ∀ {es : List (AV × AV × Nat)} {ces : List MapEntry} {i j : Nat} {v : AV}, mapR ρ es ces → findK eqCell k es i = some (some (j, v)) → ∃ e, i ≤ j ∧ ces[j - i]? = some e ∧ Instr.sameBits 10000 e.key ck = true
  | [], ces, i, j, v, hm, h => by simp [findK] at h
  | (k', v', n) :: es, ces, i, j, v, hm, h => by
    simp only [mapR] at hm
    obtain ⟨e, rest, rfl, m1, m2, m3, m4⟩ := hm
    simp only [findK] at h
    split at h
    · rename_i he
      simp at h; obtain ⟨rfl, rfl⟩ := h
      refine ⟨e, Nat.le_refl _, by simp, ?_⟩
      unfold eqCell at he
      split at he
      · split at he
        · rename_i hkk
          simp only [decide_eq_true_eq] at hkk; subst hkk
          rw [VR_int hk, VR_int m1]
          simp at he; subst he
          simp [Instr.sameBits]
        · simp at he
      · rw [VR_bool hk, VR_bool m1]
        simp at he; subst he
        simp [Instr.sameBits]
      · rw [VR_str hk, VR_str m1]
        simp only [Option.some.injEq] at he
        rw [beq_toListBytes] at he
        have := eq_of_beq he
        simp only [Instr.sameBits]
        rw [beq_toListBytes, this]; simp
      · simp at he
    · obtain ⟨e', h1, h2, h3⟩ := findK_key hk (kd := kd) m4 h
      refine ⟨e', by omega, ?_, h3⟩
      rw [show j - i = (j - (i + 1)) + 1 by omega]
      simpa using h2
    · simp at h

theorem update_rel {N : Nat} {own : Own} {ρ : Rho} {h h' : AH} (H : HRel ρ h w) (hO : Owned N own ρ) {t : TypeId} {m k v : AV} {cm ck cv : Value} (hm : VR ρ m cm) (hk : VR ρ k ck) (hv : VR ρ v cv) (hl : updateV P h t m k v = some h') :
    ∃ w', (Instr.mapUpdate t cm ck cv).run P w = .ok () w' ∧ HRel ρ h' w' ∧ Keep N own w w' := by
  unfold updateV at hl
  split at hl
  · rename_i key elem hu
    split at hl
    · rename_i q r hkq
      obtain ⟨hck, hfk⟩ := key_rel (P := P) w hk hkq
      simp only [VR] at hm
      obtain ⟨cb, hb, rfl⟩ := hm
      split at hl
      · rename_i es clock hg
        obtain ⟨ces, hh, hmr⟩ := H.maps r es clock hg cb hb
        have hget : (getObj cb.blk).run P w = .ok (.map ces clock) w := by simp [getObj, Sem.run, hh]
        have hset : ∀ o, (setObj cb.blk o).run P w = .ok () { w with heap := w.heap.setIfInBounds cb.blk o } := by
          intro o; simp [setObj, Sem.run, hh]
        split at hl
        · rename_i j u hf
          split at hl
          · rename_i hkf
            obtain rfl : q = eqCell := by
              unfold keyQ at hkq
              rw [hkf] at hkq
              exact (Option.some.inj hkq).symm
            obtain ⟨kd, hkd, hfit⟩ := keyFits_kd hkf
            simp at hl; subst hl
            obtain ⟨e, _, e1, e2⟩ := findK_key (kd := kd) hk hmr hf
            rcases hfk hmr hf with ⟨h1, _⟩ | ⟨j', u', cu, h1, h2, h3⟩
            · cases h1
            · cases h1
              have hupd := mapR.upd (kd := kd) hk hv j hmr
              rw [Nat.sub_zero] at e1
              have e1' : ces[j]? = some e := by simpa using e1
              obtain ⟨g1, g2⟩ := H.putMap hO hg hb (ces := ces.modify j fun e => { e with key := ck, val := cv }) (k' := clock) (by simpa using hupd)
              refine ⟨_, ?_, g1, g2⟩
              simp [Instr.mapUpdate, run_ul w hu, hget, hck, h2, e1', Instr.keyThatStays, e2, hset]
          · simp at hl
        · rename_i hf
          simp at hl; subst hl
          rcases hfk hmr hf with ⟨_, h2⟩ | ⟨_, _, _, h1, _⟩
          · obtain ⟨g1, g2⟩ := H.putMap hO hg hb (ces := ces.push { key := ck, val := cv, born := clock }) (k' := clock + 1) (by simpa using mapR.push (c := clock) hk hv hmr)
            refine ⟨_, ?_, g1, g2⟩
            simp [Instr.mapUpdate, run_ul w hu, hget, hck, h2, hset]
          · cases h1
        · simp at hl
      · simp at hl
    · simp at hl
  · simp at hl

theorem Left.same {N : Nat} {own : Own} {ρ : Rho} {h : AH} (H : HRel ρ h w) (hO : Owned N own ρ) {v : AV} {c : Value} {s : Sem Next} (hs : s.run P w = .ok (.value c) w) (hv : VR ρ v c) : Left P N h.next own ρ h v w s :=
  ⟨ρ, c, w, _, hs, .inl rfl, hv, H, Ext2.refl _ ρ, Keep.refl _ _ w, hO⟩

theorem eff_sound {N : Nat} {own : Own} {ρ : Rho} {h h' : AH} (H : HRel ρ h w) (hO : Owned N own ρ) (hN : N ≤ w.heap.size) {f : Operand → Option AV} {e : Operand → Value} (hf : EvR ρ f e) {o : Oper} {v : AV}
    (hn : effOp P f h o.op = some (v, h')) : Left P N h.next own ρ h' v w (execOp e o) := by
  generalize hop : o.op = op at hn
  unfold effOp at hn
  split at hn
  · rename_i t a x
    split at hn
    · rename_i p u ha hx
      split at hn
      · rename_i h2 hs
        simp at hn; obtain ⟨rfl, rfl⟩ := hn
        exact storeA_sound w H hO hf hop ha hx hs
      · simp at hn
    · simp at hn
  · rename_i args argTypes
    split at hn
    · rename_i s x t t2 ha ht
      split at hn
      · rename_i a b hs hx
        obtain ⟨ρ', c, w', h1, h2⟩ : ∃ ρ' c w', (Builtin.append_ #[t, t2] o.type #[e s, e x]).run P w = .ok c w' ∧ VR ρ' v c ∧ HRel ρ' h' w' ∧ Ext2 h.next ρ ρ' ∧ Keep N own w w' ∧ Owned N own ρ' := by
          unfold appendA at hn
          split at hn
          · exact appendE_rel w H hO hN (hf _ _ hs) (hf _ _ hx) hn o.type
          · exact append_rel w H hO hN (hf _ _ hs) (hf _ _ hx) hn o.type
        have hm : args.map e = #[e s, e x] := by apply Array.ext'; simp [ha]
        have ht' : argTypes = #[t, t2] := by apply Array.ext'; simp [ht]
        refine Left.of_run w (s' := Builtin.append_ #[t, t2] o.type #[e s, e x]) (fun c w' hr => ?_) ⟨ρ', c, w', h1, h2⟩
        simp [execOp, hop, resolve, hm, ht', invoke, builtin, hr]
      · simp at hn
    · simp at hn
  · rename_i args argTypes
    split at hn
    · rename_i d s t ts ha ht
      split at hn
      · rename_i a b hd hs
        have ht0 : argTypes[0]? = some t := by rw [← Array.getElem?_toList, ht]; rfl
        obtain ⟨ρ', c, w', h1, h2⟩ : ∃ ρ' c w', (Builtin.copy_ argTypes o.type #[e d, e s]).run P w = .ok c w' ∧ VR ρ' v c ∧ HRel ρ' h' w' ∧ Ext2 h.next ρ ρ' ∧ Keep N own w w' ∧ Owned N own ρ' := by
          unfold copyA at hn
          split at hn
          · exact copyE_rel w H hO (hf _ _ hd) (hf _ _ hs) hn argTypes ht0 o.type
          · exact copy_rel w H hO (hf _ _ hd) (hf _ _ hs) hn argTypes ht0 o.type
        have hm : args.map e = #[e d, e s] := by apply Array.ext'; simp [ha]
        refine Left.of_run w (s' := Builtin.copy_ argTypes o.type #[e d, e s]) (fun c w' hr => ?_) ⟨ρ', c, w', h1, h2⟩
        simp [execOp, hop, resolve, hm, invoke, builtin, hr]
      · simp at hn
    · simp at hn
  · rename_i args argTypes
    split at hn
    · rename_i x t ts ha ht
      split at hn
      · rename_i a hx
        split at hn
        · rename_i h2 hl
          simp at hn; obtain ⟨rfl, rfl⟩ := hn
          have ht0 : argTypes[0]? = some t := by rw [← Array.getElem?_toList, ht]; rfl
          obtain ⟨w', h1, h2, h3⟩ := clear_rel w H hO (hf _ _ hx) hl argTypes ht0 o.type
          have hm : args.map e = #[e x] := by apply Array.ext'; simp [ha]
          refine Left.of_run w (s' := Builtin.clear_ argTypes o.type #[e x]) (fun c w' hr => ?_) ⟨ρ, undef, w', h1, by simp [undefA, VR, VRs, undef], h2, Ext2.refl _ ρ, h3, hO⟩
          simp [execOp, hop, resolve, hm, invoke, builtin, hr]
        · simp at hn
      · simp at hn
    · simp at hn
  · rename_i t m k ok
    split at hn
    · rename_i a b hm hk
      split at hn
      · rename_i u hl
        simp at hn; obtain ⟨rfl, rfl⟩ := hn
        obtain ⟨c, h1, h2⟩ := lookup_rel w H (hf _ _ hm) (hf _ _ hk) hl
        exact Left.same w H hO (by simp [execOp, hop, h1]) h2
      · simp at hn
    · simp at hn
  · rename_i t m k x
    split at hn
    · rename_i a b c hm hk hx
      split at hn
      · rename_i h2 hl
        simp at hn; obtain ⟨rfl, rfl⟩ := hn
        obtain ⟨w', h1, h2, h3⟩ := update_rel w H hO (hf _ _ hm) (hf _ _ hk) (hf _ _ hx) hl
        exact ⟨ρ, undef, w', .skip, by simp [execOp, hop, h1], .inr ⟨rfl, rfl⟩, by simp [undefA, VR, VRs, undef], h2, Ext2.refl _ ρ, h3, hO⟩
      · simp at hn
    · simp at hn
  · simp at hn

/-- an operation that calls no function -/
theorem plain_sound {N : Nat} {own : Own} {ρ : Rho} {h h' : AH} (H : HRel ρ h w) (hO : Owned N own ρ) (hN : N ≤ w.heap.size) {fr : Tr AV} {e : Operand → Value} (hf : EvR ρ (ev fr) e) {o : Oper} {v : AV}
    (hn : plainOp P fr h o.op = some (v, h')) : Left P N h.next own ρ h' v w (execOp e o) := by
  unfold plainOp at hn
  split at hn
  · split at hn
    · rename_i u hp
      simp at hn; obtain ⟨rfl, rfl⟩ := hn
      obtain ⟨c, h1, h2⟩ := pure_sound w hf hp
      exact Left.same w H hO h1 h2
    · simp at hn
  · split at hn
    · rename_i t a hop
      split at hn
      · rename_i p ha
        split at hn
        · rename_i u hl
          simp at hn; obtain ⟨rfl, rfl⟩ := hn
          obtain ⟨c, h1, h2⟩ := load_soundA w H hf hop ha hl
          exact Left.same w H hO h1 h2
        · simp at hn
      · simp at hn
    · simp at hn
  · split at hn
    · rename_i b u hw
      simp at hn; obtain ⟨rfl, rfl⟩ := hn
      exact new_sound w H hO hN hf hw
    · simp at hn
  · exact eff_sound w H hO hN hf hn
  · simp at hn
end
end Go.EV
