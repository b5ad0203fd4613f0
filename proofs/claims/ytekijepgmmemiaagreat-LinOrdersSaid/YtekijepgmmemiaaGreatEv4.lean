/- Own text of this claim: an abstract machine over the given program form, and what follows from it. No condition. -/
import Derived.Test.YtekijepgmmemiaaGreatEv3
set_option linter.unusedVariables false
set_option linter.unusedSimpArgs false
set_option maxHeartbeats 1000000
namespace Go.EV
inductive All2 {α β : Type} (R : α → β → Prop) : List α → List β → Prop where
  | nil : All2 R [] []
  | cons {a b l r} : R a b → All2 R l r → All2 R (a :: l) (b :: r)

section
variable {P : Program} (w : World)

/-! ### building -/
theorem foldl_set (off : Nat) : ∀ (l : List Value) (k : Nat) (cs : Array Value), off + k + l.length ≤ cs.size →
    ((l.zipIdx k).foldl (fun (cs : Array Value) (p : Value × Nat) => cs.setIfInBounds (off + p.2) p.1) cs).toList = cs.toList.take (off + k) ++ l ++ cs.toList.drop (off + k + l.length)
  | [], k, cs, _ => by simp
  | v :: l, k, cs, h => by
    simp only [List.zipIdx_cons, List.foldl_cons]
    rw [foldl_set off l (k + 1) _ (by simp at h ⊢; omega)]
    have e := list_seg_step cs.toList (off + k) v l (by simp at h ⊢; omega)
    simpa [Array.toList_setIfInBounds, Nat.add_assoc] using e

theorem fill_rel {ρ : Rho} {place : Nat → Option (Nat × Nat)} : ∀ {l : List (Nat × AV)} {cs cs' : List AV} {parts : List (Nat × Value)} {arr : Array Value},
    fillA place cs l = some cs' → VRs ρ cs arr.toList → All2 (fun (a : Nat × AV) (b : Nat × Value) => a.1 = b.1 ∧ VR ρ a.2 b.2) l parts →
    ∃ arr', Instr.fill place arr parts = some arr' ∧ VRs ρ cs' arr'.toList
  | [], cs, cs', _, arr, h, hv, hp => by
    cases hp
    simp [fillA] at h; subst h
    exact ⟨arr, rfl, hv⟩
  | (i, v) :: l, cs, cs', _, arr, h, hv, hp => by
    cases hp with
    | @cons _ b _ parts hb hp =>
      obtain ⟨j, u⟩ := b
      obtain ⟨rfl, hb⟩ := hb
      simp only [fillA] at h
      split at h
      · simp at h
      · rename_i off size hpl
        split at h
        · rename_i hc
          simp only [Bool.and_eq_true, Tr.beq_true, Nat.ble_eq] at hc
          have hl := VRs.length hv
          have hul := VRs.length hb.cells
          simp at hl hul
          have hfold := foldl_set off u.cells.toList 0 arr (by simp; omega)
          have hv' : VRs ρ (splice cs off v.cells) (u.cells.zipIdx.foldl (fun cs (p : Value × Nat) => cs.setIfInBounds (off + p.2) p.1) arr).toList := by
            have he : (u.cells.zipIdx.foldl (fun cs (p : Value × Nat) => cs.setIfInBounds (off + p.2) p.1) arr) = ((u.cells.toList.zipIdx 0).foldl (fun (cs : Array Value) (p : Value × Nat) => cs.setIfInBounds (off + p.2) p.1) arr) := by
              rw [← Array.foldl_toList]; simp
            rw [he, hfold]
            unfold splice
            rw [Nat.add_zero]
            refine VRs.append (VRs.append (hv.take off) hb.cells) ?_
            rw [show off + u.cells.toList.length = off + v.cells.length by simp; omega]
            exact hv.drop _
          obtain ⟨arr', h1, h2⟩ := fill_rel h hv' hp
          refine ⟨arr', ?_, h2⟩
          simp only [Instr.fill, hpl]
          rw [if_neg (by simp; omega)]
          exact h1
        · simp at h

theorem partsOf_rel {ρ : Rho} {f : Operand → Option AV} {e : Operand → Value} (hf : EvR ρ f e) : ∀ {ps : List (Nat × Operand)} {l : List (Nat × AV)},
    allOf (fun p : Nat × Operand => match f p.2 with | some v => some (p.1, v) | none => none) ps = some l →
    All2 (fun (a : Nat × AV) (b : Nat × Value) => a.1 = b.1 ∧ VR ρ a.2 b.2) l (ps.map fun p => (p.1, e p.2))
  | [], l, h => by simp [allOf] at h; subst h; exact .nil
  | p :: ps, l, h => by
    simp only [allOf] at h
    split at h
    · rename_i b hb
      split at h
      · rename_i bs hbs
        simp at h; subst h
        split at hb
        · rename_i v hv
          simp at hb; subst hb
          exact .cons ⟨rfl, hf _ _ hv⟩ (partsOf_rel hf hbs)
        · simp at hb
      · simp at h
    · simp at h

theorem run_places {fs : Array Field} {pl : List (Nat × Nat)} (h : fieldPlaces P fs = some pl) :
    (fs.mapM fun f => do pure (f.offset, ← Go.sizeOf f.type) : Sem _).run P w = .ok pl.toArray w := by
  unfold fieldPlaces at h
  rw [Array.mapM_eq_mapM_toList]
  have key : ∀ (l : List Field) (pl : List (Nat × Nat)), allOf (fun f : Field => match EV.sizeOf P f.type with | some n => some (f.offset, n) | none => none) l = some pl →
      (l.mapM fun f => do pure (f.offset, ← Go.sizeOf f.type) : Sem (List (Nat × Nat))).run P w = .ok pl w := by
    intro l
    induction l with
    | nil => intro pl h; simp [allOf] at h; subst h; simp
    | cons f l ih =>
      intro pl h
      simp only [allOf] at h
      split at h
      · rename_i b hb
        split at h
        · rename_i bs hbs
          simp at h; subst h
          split at hb
          · rename_i n hn
            simp at hb; subst hb
            simp only [List.mapM_cons, Sem.run_bind, run_sz w hn, Result.andThen_ok, Sem.run_pure, ih bs hbs]
          · simp at hb
        · simp at h
      · simp at h
  rw [Sem.run_map, key _ _ h]; rfl

theorem run_build {ρ : Rho} {f : Operand → Option AV} {e : Operand → Value} (hf : EvR ρ f e) {t : TypeId} {ps : Array (Nat × Operand)} {v : AV}
    (h : pureOp P f (.build t ps) = some v) : ∃ c, (Instr.build t (ps.map fun (i, x) => (i, e x))).run P w = .ok c w ∧ VR ρ v c := by
  simp only [pureOp] at h
  split at h
  · rename_i fs z l hu hz hl
    split at h
    · rename_i pl hpl
      split at h
      · rename_i cs hcs
        simp at h; subst h
        obtain ⟨zv, hzr, hzv⟩ := run_zero (P := P) w hz (ρ := ρ)
        obtain ⟨arr', h1, h2⟩ := fill_rel (arr := zv.cells) hcs hzv (partsOf_rel hf hl)
        refine ⟨.agg arr', ?_, by simp only [VR]; exact ⟨_, rfl, h2⟩⟩
        simp only [Instr.build, Sem.run_bind, hzr, Result.andThen_ok, run_ul w hu, run_places w hpl]
        have : (fun i : Nat => pl.toArray[i]?) = fun i : Nat => pl[i]? := by funext i; simp
        simp only [this, Array.toList_map, h1]
        rfl
      · simp at h
    · simp at h
  · rename_i n elem z l hu hz hl
    split at h
    · rename_i sz hsz
      split at h
      · rename_i cs hcs
        simp at h; subst h
        obtain ⟨zv, hzr, hzv⟩ := run_zero (P := P) w hz (ρ := ρ)
        obtain ⟨arr', h1, h2⟩ := fill_rel (arr := zv.cells) hcs hzv (partsOf_rel hf hl)
        refine ⟨.agg arr', ?_, by simp only [VR]; exact ⟨_, rfl, h2⟩⟩
        simp only [Instr.build, Sem.run_bind, hzr, Result.andThen_ok, run_ul w hu, run_sz w hsz, Array.toList_map, h1]
        rfl
      · simp at h
    · simp at h
  · simp at h

/-! ### comparing -/
theorem eqFs_rel {ρ : Rho} {d : Nat} {g : TypeId → AV → AV → Option Bool} (hg : ∀ t x y b cx cy, g t x y = some b → VR ρ x cx → VR ρ y cy → (Op.equalIn d t cx cy).run P w = .ok b w)
    {xs ys : List AV} {ax ay : Array Value} (hx : VRs ρ xs ax.toList) (hy : VRs ρ ys ay.toList) : ∀ {fs : List Field} {b : Bool}, eqFs P g xs ys fs = some b → (Op.eqFields d ax ay fs).run P w = .ok b w
  | [], b, h => by simp [eqFs] at h; subst h; simp [Op.eqFields]
  | fd :: fs, b, h => by
    simp only [eqFs] at h
    split at h
    · rename_i hn
      simp only [Op.eqFields]
      rw [if_neg (by simpa using hn)]
      exact eqFs_rel hg hx hy h
    · rename_i hn
      split at h
      · rename_i x y hpx hpy
        obtain ⟨cx, r1, v1⟩ := run_part (P := P) w hpx hx
        obtain ⟨cy, r2, v2⟩ := run_part (P := P) w hpy hy
        simp only [Op.eqFields]
        rw [if_pos (by simpa using hn)]
        split at h
        · rename_i b1 hr
          split at h
          · rename_i c1 hc
            simp at h; subst h
            have ih := eqFs_rel hg hx hy hc
            cases b1 <;> simp [r1, r2, hg _ _ _ _ _ _ hr v1 v2, ih]
          · simp at h
        · simp at h
      · simp at h

theorem eqIn_rel {ρ : Rho} : ∀ (d m : Nat) {t : TypeId} {x y : AV} {b : Bool} {cx cy : Value}, eqIn P d t x y = some b → VR ρ x cx → VR ρ y cy →
    (Op.equalIn (d + m) t cx cy).run P w = .ok b w := by
  intro d
  induction d with
  | zero => intro m t x y b cx cy h; simp [eqIn] at h
  | succ d ih =>
    intro m t x y b cx cy h hx hy
    rw [show d + 1 + m = (d + m) + 1 by omega]
    simp only [eqIn] at h
    split at h
    · rename_i a c hu
      simp only [VR] at hx hy; subst hx hy
      simp at h; subst h
      simp [Op.equalIn, run_ul w hu]
    · rename_i k0 k a k' c hu
      simp only [VR] at hx hy; subst hx hy
      split at h
      · rename_i hk
        simp only [decide_eq_true_eq] at hk
        simp at h; subst h
        simp [Op.equalIn, run_ul w hu, hk]
      · simp at h
    · rename_i a c hu
      simp only [VR] at hx hy; subst hx hy
      simp at h; subst h
      simp [Op.equalIn, run_ul w hu]
    · rename_i fs xs ys hu
      simp only [VR] at hx hy
      obtain ⟨ax, rfl, hx⟩ := hx
      obtain ⟨ay, rfl, hy⟩ := hy
      split at h
      · simp at h
      · rename_i hst
        have hfo : P.fieldsOf t = fs := by simp [Program.fieldsOf, hu]
        rw [run_equalIn_struct w (d + m) t ax ay (by rw [hfo]; exact hu) hst, hfo]
        exact eqFs_rel w (fun t x y b cx cy h1 h2 h3 => ih m h1 h2 h3) hx hy h
    all_goals first
      | (simp at h; done)
      | (rename_i hu
         simp only [VR] at hx hy
         simp at h; subst h
         first
           | (subst hx hy; simp [Op.equalIn, run_ul w hu]; done)
           | (subst hx; obtain ⟨_, _, rfl⟩ := hy; simp [Op.equalIn, run_ul w hu]; done)
           | (subst hx; obtain ⟨_, _, _, rfl, _⟩ := hy; simp [Op.equalIn, run_ul w hu]; done)
           | (subst hx; obtain ⟨_, _, rfl, _⟩ := hy; simp [Op.equalIn, run_ul w hu]; done)
           | (subst hy; obtain ⟨_, _, rfl⟩ := hx; simp [Op.equalIn, run_ul w hu]; done)
           | (subst hy; obtain ⟨_, _, _, rfl, _⟩ := hx; simp [Op.equalIn, run_ul w hu]; done)
           | (subst hy; obtain ⟨_, _, rfl, _⟩ := hx; simp [Op.equalIn, run_ul w hu]; done)
           | (subst hy
              rcases hx with ⟨h0, _⟩ | ⟨_, _, _, _, _, rfl, _⟩
              · exact absurd h0 (Nat.succ_ne_zero _)
              · simp [Op.equalIn, run_ul w hu]
              done)
           | (subst hy
              rcases hx with ⟨h0, _⟩ | ⟨_, _, _, rfl, _⟩
              · exact absurd h0 (Nat.succ_ne_zero _)
              · simp [Op.equalIn, run_ul w hu]
              done))

theorem beq_bytes (a b : ByteArray) : (a.toList == b.toList) = (a == b) := (beq_toListBytes a b).symm

theorem VR_int {ρ : Rho} {k : IntKind} {n : Int} {c : Value} (h : VR ρ (.int k n) c) : c = .int k n := by simpa only [VR] using h
theorem VR_str {ρ : Rho} {s : ByteArray} {c : Value} (h : VR ρ (.str s) c) : c = .string s := by simpa only [VR] using h
theorem VR_bool {ρ : Rho} {s : Bool} {c : Value} (h : VR ρ (.bool s) c) : c = .bool s := by simpa only [VR] using h

def tagA : AV → Nat
  | .int .. => 0 | .bool _ => 1 | .str _ => 2 | .ptr .. => 3 | .nilptr => 3 | .sl .. => 4 | .nilsl => 4 | .slz _ => 4 | .mp _ => 5 | .nilmap => 5
  | .fn .. => 6 | .yld _ => 6 | .nilfn => 7 | .agg _ => 8 | .tup _ => 9 | .ls .. => 4 | .es .. => 4 | .lp .. => 3 | .ep .. => 3
def tagV : Value → Nat
  | .int .. => 0 | .bool _ => 1 | .string _ => 2 | .pointer _ => 3 | .slice .. => 4 | .map _ => 5 | .func .. => 6 | .nilFunc => 7 | .agg _ => 8 | .tuple _ => 9 | _ => 10

theorem VR.tag {ρ : Rho} {v : AV} {c : Value} (h : VR ρ v c) : tagV c = tagA v := by
  cases v <;> first
    | (obtain ⟨_, _, rfl⟩ := h.ls_sl; rfl)
    | (obtain ⟨_, _, rfl⟩ := h.es_sl; rfl)
    | (obtain ⟨_, rfl⟩ := h.lp_pt; rfl)
    | (obtain ⟨_, rfl⟩ := h.ep_pt; rfl)
    | simp only [VR] at h
  all_goals first
    | done
    | (subst h; rfl)
    | (obtain ⟨_, _, rfl⟩ := h; rfl)
    | (obtain ⟨_, _, _, rfl, _⟩ := h; rfl)
    | (obtain ⟨_, _, rfl, _⟩ := h; rfl)
    | (obtain ⟨_, rfl, _⟩ := h; rfl)

theorem guard_ok {op : BinOp} {t : TypeId} {ox oy : Operand} {cx cy : Value} (h : tagV cx < 10) (ha : tagV cx = 8 → tagV cy = 8 → P.eqGuardType P.depth t = false) :
    (eqGuard op t ox oy cx cy).run P w = .ok () w := by
  unfold eqGuard
  cases op <;> (try rfl)
  all_goals
    cases cx <;> (try rfl)
    all_goals cases cy <;> (try rfl)
    all_goals first
      | (simp [tagV] at h; done)
      | (simp [ha rfl rfl])

theorem bin_eql {t : TypeId} {cx cy : Value} (h : tagV cx < 10) (h0 : ¬ (tagV cx = 0 ∧ tagV cy = 0)) (h2 : ¬ (tagV cx = 2 ∧ tagV cy = 2)) :
    binOp .eql t cx cy = (do pure (.bool (← Op.equal t cx cy))) := by
  cases cx <;> (try (simp [tagV] at h; done)) <;> (try rfl)
  all_goals cases cy <;> (try rfl)
  all_goals (simp [tagV] at h0 h2)

theorem bin_neq {t : TypeId} {cx cy : Value} (h : tagV cx < 10) (h0 : ¬ (tagV cx = 0 ∧ tagV cy = 0)) (h2 : ¬ (tagV cx = 2 ∧ tagV cy = 2)) :
    binOp .neq t cx cy = (do pure (.bool (!(← Op.equal t cx cy)))) := by
  cases cx <;> (try (simp [tagV] at h; done)) <;> (try rfl)
  all_goals cases cy <;> (try rfl)
  all_goals (simp [tagV] at h0 h2)

theorem tagA_lt (v : AV) : tagA v < 10 := by cases v <;> simp [tagA]

theorem run_eqV {ρ : Rho} {t : TypeId} {x y : AV} {b : Bool} {cx cy : Value} (h : eqV P t x y = some b) (hx : VR ρ x cx) (hy : VR ρ y cy) (ox oy : Operand) (op : BinOp) :
    (eqGuard op t ox oy cx cy).run P w = .ok () w ∧ (Op.equal t cx cy).run P w = .ok b w := by
  unfold eqV at h
  split at h
  · rename_i hok
    refine ⟨guard_ok w (by rw [hx.tag]; exact tagA_lt x) (fun h8 h8' => ?_), eqIn_rel w 9 9991 h hx hy⟩
    rw [hx.tag] at h8; rw [hy.tag] at h8'
    cases x <;> simp [tagA] at h8
    cases y <;> simp [tagA] at h8'
    simpa [eqOk] using hok
  · simp at h

theorem run_shift {op : BinOp} {k yk : IntKind} {a b n : Int} (h : shiftI op k a b = some n) : (Op.shift op k a yk b).run P w = .ok (.int k n) w := by
  unfold shiftI at h
  split at h
  · simp at h
  · rename_i hb
    simp only [decide_eq_false_iff_not] at hb
    unfold Op.shift
    rw [if_neg hb]
    cases op <;> simp at h <;> subst h <;> rfl

theorem run_arith {op : BinOp} {t : TypeId} {k : IntKind} {a b n : Int} (h : arith op k a b = some n) : (binOp op t (.int k a) (.int k b)).run P w = .ok (.int k n) w := by
  unfold arith at h
  cases op <;> simp only at h <;> (try (simp at h; done)) <;> (try (split at h <;> (try (simp at h; done)))) <;> (simp at h; subst h) <;>
    simp [binOp, Op.intArith, Op.intDiv, Op.intBits, *]

theorem run_cmp {op : BinOp} {t : TypeId} {k : IntKind} {a b : Int} {c : Bool} (h : cmpI op a b = some c) : (binOp op t (.int k a) (.int k b)).run P w = .ok (.bool c) w := by
  unfold cmpI at h
  cases op <;> simp only at h <;> (try (simp at h; done)) <;> (simp at h; subst h) <;> simp [binOp, Op.intCmp]

theorem run_bin {ρ : Rho} {op : BinOp} {t : TypeId} {x y v : AV} (h : bin P op t x y = some v) {cx cy : Value} (hx : VR ρ x cx) (hy : VR ρ y cy) (ox oy : Operand) :
    (eqGuard op t ox oy cx cy).run P w = .ok () w ∧ ∃ c, (binOp op t cx cy).run P w = .ok c w ∧ VR ρ v c := by
  unfold bin at h
  split at h
  · rename_i k a k' b
    obtain rfl := VR_int hx
    obtain rfl := VR_int hy
    refine ⟨guard_ok w (by simp [tagV]) (by simp [tagV]), ?_⟩
    have h' := h
    clear h
    have fin1 : (match decide (k = k') with | true => (match arith op k a b with | some n => some (AV.int k n) | none => none) | false => none) = some v →
        ∃ c, (binOp op t (.int k a) (.int k' b)).run P w = .ok c w ∧ VR ρ v c := by
      intro q
      split at q
      · rename_i hk
        simp only [decide_eq_true_eq] at hk; subst hk
        split at q
        · rename_i n hn
          simp at q; subst q
          exact ⟨_, run_arith w hn, by simp only [VR]⟩
        · simp at q
      · simp at q
    have fin2 : (match decide (k = k') with | true => (match cmpI op a b with | some c => some (AV.bool c) | none => none) | false => none) = some v →
        ∃ c, (binOp op t (.int k a) (.int k' b)).run P w = .ok c w ∧ VR ρ v c := by
      intro q
      split at q
      · rename_i hk
        simp only [decide_eq_true_eq] at hk; subst hk
        split at q
        · rename_i n hn
          simp at q; subst q
          exact ⟨_, run_cmp w hn, by simp only [VR]⟩
        · simp at q
      · simp at q
    cases op <;> first
      | exact fin1 h'
      | exact fin2 h'
      | (simp only at h'
         split at h'
         · rename_i n hn
           simp at h'; subst h'
           exact ⟨.int k n, run_shift (yk := k') w hn, by simp only [VR]⟩
         · simp at h')
  · rename_i a b
    obtain rfl := VR_str hx
    obtain rfl := VR_str hy
    refine ⟨guard_ok w (by simp [tagV]) (by simp [tagV]), ?_⟩
    cases op <;> simp only at h <;> (try (simp at h; done))
    · split at h
      · rename_i hle
        simp at h; subst h
        simp only [Nat.ble_eq] at hle
        refine ⟨.string (a ++ b), ?_, by simp only [VR]⟩
        have : ¬ (((a.size + b.size : Nat) : Int) > IntKind.i64.max) := by
          have : IntKind.i64.max = 9223372036854775807 := rfl
          omega
        simp only [binOp, Op.stringOp]
        rw [if_neg this]; rfl
      · simp at h
    · simp at h; subst h
      exact ⟨.bool (a == b), by simp only [binOp, Op.stringOp, beq_bytes]; rfl, by simp only [VR]⟩
    · simp at h; subst h
      exact ⟨.bool (!(a == b)), by simp only [binOp, Op.stringOp, beq_bytes]; rfl, by simp only [VR]⟩
  · rename_i h1 h2
    have t0 : ¬ (tagV cx = 0 ∧ tagV cy = 0) := by
      rw [hx.tag, hy.tag]; rintro ⟨e1, e2⟩
      cases x <;> simp [tagA] at e1
      cases y <;> simp [tagA] at e2
      exact h1 _ _ _ _ rfl rfl
    have t2 : ¬ (tagV cx = 2 ∧ tagV cy = 2) := by
      rw [hx.tag, hy.tag]; rintro ⟨e1, e2⟩
      cases x <;> simp [tagA] at e1
      cases y <;> simp [tagA] at e2
      exact h2 _ _ rfl rfl
    have tl : tagV cx < 10 := by rw [hx.tag]; exact tagA_lt x
    cases op <;> simp only at h <;> (try (simp at h; done))
    · split at h
      · rename_i b hb
        simp at h; subst h
        obtain ⟨g1, g2⟩ := run_eqV w hb hx hy ox oy .eql
        exact ⟨g1, .bool b, by rw [bin_eql tl t0 t2]; simp [g2], by simp only [VR]⟩
      · simp at h
    · split at h
      · rename_i b hb
        simp at h; subst h
        obtain ⟨g1, g2⟩ := run_eqV w hb hx hy ox oy .neq
        exact ⟨g1, .bool !b, by rw [bin_neq tl t0 t2]; simp [g2], by simp only [VR]⟩
      · simp at h
end
end Go.EV
