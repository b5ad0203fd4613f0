/- Own text of this claim: an abstract machine over the given program form, and what follows from it. No condition. -/
import Derived.Test.YtekijepgmmemiaaGreatEvB
set_option linter.unusedVariables false
set_option linter.unusedSimpArgs false
set_option maxHeartbeats 1000000
namespace Go.EV

def FlOk (P : Program) (h : AH) : Float → Prop
  | .load t p v => loadA P h t p = some v
  | .new b n z => h.bs.get b = some (.row n z .nil)
  | .newMap b => h.bs.get b = some (.map [] 0)

theorem floatOk_sound {P : Program} {h : AH} {fl : Float} (hf : floatOk P h fl = true) : FlOk P h fl := by
  cases fl with
  | load t p v =>
    simp only [floatOk] at hf
    split at hf
    · rename_i u hu; rw [AV.beq_eq hf] at hu; exact hu
    · cases hf
  | new b n z =>
    simp only [floatOk] at hf
    split at hf
    · rename_i m y hg
      simp only [Bool.and_eq_true, Tr.beq_true] at hf
      obtain ⟨rfl, h2⟩ := hf
      rw [AV.beqs_eq h2] at hg
      exact hg
    · cases hf
  | newMap b =>
    simp only [floatOk] at hf
    split at hf
    · rename_i hg; exact hg
    · cases hf

theorem recheck_spec {P : Program} {h : AH} {mask : Nat} : ∀ {fs fs' : List (Nat × Float)}, recheck P h mask fs = some fs' →
    (∀ p ∈ fs', p ∈ fs ∧ FlOk P h p.2) ∧ ∀ p ∈ fs, mask.testBit p.1 = false → p ∈ fs'
  | [], fs', e => by simp [recheck] at e; subst e; simp
  | (i, fl) :: r, fs', e => by
    simp only [recheck] at e
    split at e
    · rename_i hm
      obtain ⟨h1, h2⟩ := recheck_spec e
      refine ⟨fun p hp => ⟨List.mem_cons_of_mem _ (h1 p hp).1, (h1 p hp).2⟩, fun p hp hb => ?_⟩
      rcases List.mem_cons.mp hp with rfl | hp
      · rw [hm] at hb; cases hb
      · exact h2 p hp hb
    · split at e
      · rename_i hok
        split at e
        · rename_i r' hr
          simp at e; subst e
          obtain ⟨h1, h2⟩ := recheck_spec hr
          refine ⟨fun p hp => ?_, fun p hp hb => ?_⟩
          · rcases List.mem_cons.mp hp with rfl | hp
            · exact ⟨List.mem_cons_self .., floatOk_sound hok⟩
            · exact ⟨List.mem_cons_of_mem _ (h1 p hp).1, (h1 p hp).2⟩
          · rcases List.mem_cons.mp hp with rfl | hp
            · exact List.mem_cons_self ..
            · exact List.mem_cons_of_mem _ (h2 p hp hb)
        · simp at e
      · simp at e

/-- what is to be done yet of an operation that the machine below has not come to -/
def Pend (P : Program) (ρ : Rho) (lo hi : Nat) (ops : Array Oper) (g : Nat → Option AV) (floats : List (Nat × Float)) (i : Nat) (o : Oper) (v : AV) : Prop :=
  (guardF ops g o = some false ∧ v = undefA) ∨ (guardF ops g o = some true ∧
    ((kindOf o.op = .pure ∧ pureOp P (evF g) o.op = some v) ∨
     (∃ t a p, o.op = .load t a ∧ evF g a = some p ∧ (i, Float.load t p v) ∈ floats) ∨
     (∃ b n z, newOp P (evF g) b o.op = some (.row n z .nil, v) ∧ lo ≤ b ∧ b < hi ∧ ρ b = none ∧ (i, Float.new b n z) ∈ floats) ∨
     (∃ b, newOp P (evF g) b o.op = some (.map [] 0, v) ∧ lo ≤ b ∧ b < hi ∧ ρ b = none ∧ (i, Float.newMap b) ∈ floats) ∨
     (∃ t a cs k, o.op = .load t a ∧ evF g a = some (.lp cs k) ∧ part P t cs k = some v)))

theorem Pend.mono {P : Program} {ρ ρ' : Rho} {lo hi lo' hi' : Nat} {ops : Array Oper} {g : Nat → Option AV} {fs fs' : List (Nat × Float)} {i : Nat} {o : Oper} {v : AV} (H : Pend P ρ lo hi ops g fs i o v)
    (hl : lo' ≤ lo) (hh : hi ≤ hi') (hf : ∀ fl, (i, fl) ∈ fs → (i, fl) ∈ fs') (hr : ∀ b, lo ≤ b → b < hi → ((∃ n z, (i, Float.new b n z) ∈ fs) ∨ (i, Float.newMap b) ∈ fs) → ρ b = none → ρ' b = none) : Pend P ρ' lo' hi' ops g fs' i o v := by
  rcases H with h | ⟨h, h2⟩
  · exact .inl h
  · refine .inr ⟨h, ?_⟩
    rcases h2 with h3 | ⟨t, a, p, h3, h4, h5⟩ | ⟨b, n, z, h3, h4, h5, h6, h7⟩ | ⟨b, h3, h4, h5, h6, h7⟩ | h3
    · exact .inl h3
    · exact .inr (.inl ⟨t, a, p, h3, h4, hf _ h5⟩)
    · exact .inr (.inr (.inl ⟨b, n, z, h3, by omega, by omega, hr b h4 h5 (.inl ⟨n, z, h7⟩) h6, hf _ h7⟩))
    · exact .inr (.inr (.inr (.inl ⟨b, h3, by omega, by omega, hr b h4 h5 (.inr h7) h6, hf _ h7⟩)))
    · exact .inr (.inr (.inr (.inr h3)))

/-- which block a record of a region is about -/
def newOf : Float → Option Nat
  | .new b _ _ => some b
  | .newMap b => some b
  | _ => none

def inD (L : List Nat) (i : Nat) : Bool := !L.contains i

theorem inD_iff {L : List Nat} {i : Nat} : inD L i = true ↔ i ∉ L := by simp [inD]
theorem inD_false {L : List Nat} {i : Nat} : inD L i = false ↔ i ∈ L := by simp [inD]

structure DI (P : Program) (ρ : Rho) (lo hi : Nat) (ops : Array Oper) (all : List RI) (done : Nat) (floats : List (Nat × Float)) (at_ : Nat → Option AV) (ct : Array Value) (L : List Nat) : Prop where
  info : Info ops all
  topo : Topo ops L
  lt : ∀ i ∈ L, i < ops.size
  sub : ∀ i, i < ops.size → i ∉ L → done.testBit i = true
  closed : Closed ops done.testBit
  closedD : Closed ops (inD L)
  dlt : ∀ (i : Nat) (x : RI) (d : Nat), all[i]? = some x → done.testBit i = true → x.o.dst = some d → d < ct.size
  uniq : ∀ p ∈ floats, ∀ q ∈ floats, ∀ b, newOf p.2 = some b → newOf q.2 = some b → p.1 = q.1
  vals : ∃ (vals : Nat → AV) (g0 : Nat → Option AV), (∀ t, at_ t = cur ops vals g0 done.testBit t) ∧ (∀ t v, cur ops vals g0 (inD L) t = some v → ∃ c, ct[t]? = some c ∧ VR ρ v c) ∧
    ∀ i x, all[i]? = some x → done.testBit i = true → i ∈ L → Pend P ρ lo hi ops (only x.nm (cur ops vals g0 fun j => decide (j < i))) floats i x.o (vals i)

theorem DI.mono {P : Program} {ρ ρ' : Rho} {lo hi lo' hi' : Nat} {ops : Array Oper} {all : List RI} {done : Nat} {floats : List (Nat × Float)} {at_ : Nat → Option AV} {ct : Array Value} {L : List Nat}
    (D : DI P ρ lo hi ops all done floats at_ ct L) (hx : Ext ρ ρ') (hr : ∀ b, lo ≤ b → b < hi → ρ' b = ρ b) (hl : lo' ≤ lo) (hh : hi ≤ hi') : DI P ρ' lo' hi' ops all done floats at_ ct L := by
  obtain ⟨vals, g0, v1, v2, v3⟩ := D.vals
  refine ⟨D.info, D.topo, D.lt, D.sub, D.closed, D.closedD, D.dlt, D.uniq, vals, g0, v1, fun t v h => ?_, fun i x h1 h2 h3 => ?_⟩
  · obtain ⟨c, h1, h2⟩ := v2 t v h; exact ⟨c, h1, h2.ext hx⟩
  · exact (v3 i x h1 h2 h3).mono hl hh (fun _ h => h) (fun b h4 h5 _ h6 => by rw [hr b h4 h5]; exact h6)

theorem Topo.tail {ops : Array Oper} {i : Nat} {L : List Nat} (h : Topo ops (i :: L)) : i < ops.size ∧ i ∉ L ∧ (∀ o, ops[i]? = some o → ∀ j ∈ edgesOf o, j ∉ i :: L) ∧ Topo ops L := by
  cases h with
  | cons h1 h2 h3 h4 => exact ⟨h1, h2, h3, h4⟩

/-- what the machine below has done is closed -/
theorem closedD {ops : Array Oper} {L : List Nat} (hback : ∀ (i : Nat) (o : Oper), ops[i]? = some o → ∀ j ∈ edgesOf o, j < i) (h : Topo ops L) : ∀ (i : Nat) (o : Oper), ops[i]? = some o → i ∉ L → ∀ j ∈ edgesOf o, j ∉ L ∨ True := fun _ _ _ _ _ _ => .inr trivial

theorem only_congr {nm : List Nat} {g g' : Nat → Option AV} (h : ∀ t, hasN nm t = true → g t = g' t) : only nm g = only nm g' := by
  funext t
  unfold only
  split
  · rename_i ht; exact h t ht
  · rfl

/-- the slots that an operation names, as the machine above had them when it did it -/
theorem env_eq {P : Program} {ops : Array Oper} {all : List RI} (I : Info ops all) {vals : Nat → AV} {g0 : Nat → Option AV} {W : Nat → Bool} (hW : Closed ops W) {i : Nat} {x : RI} (hx : all[i]? = some x) (hi : W i = false)
    (he : ∀ j ∈ edgesOf x.o, W j = true) : only x.nm (cur ops vals g0 W) = only x.nm (cur ops vals g0 fun j => decide (j < i)) :=
  only_congr fun t ht => cur_congr fun j hj hd => names_before I hW hx hi he ht hj hd

/-- a value that comes later is not seen by what is done -/
theorem env_upd {ops : Array Oper} {all : List RI} (I : Info ops all) {vals : Nat → AV} {g0 : Nat → Option AV} {W : Nat → Bool} (hW : Closed ops W) {i j : Nat} {y : RI} (hy : all[j]? = some y) (hj : W j = true) (hi : W i = false) (hil : i < ops.size) {v : AV} :
    only y.nm (cur ops (upd vals i v) g0 fun k => decide (k < j)) = only y.nm (cur ops vals g0 fun k => decide (k < j)) := by
  refine only_congr fun t ht => ?_
  unfold cur
  cases hl : lastW (dstOf ops) (fun k => decide (k < j)) t ops.size with
  | none => rfl
  | some k =>
    obtain ⟨h1, h2, h3⟩ := lastW_some hl
    have : k ≠ i := by
      rintro rfl
      simp at h2
      obtain ⟨x, hx⟩ := info_at I hil
      obtain ⟨hox, hxi, hdx⟩ := dst_of I hx
      rw [h3] at hdx
      have hc : conf x y = true := by unfold conf; rw [← hdx]; simp [ht]
      have hm := I.pairs k j x y h2 hx hy hc
      have := I.mask (fun l => W l = true) (fun a o ho ha l hl => hW a o ho ha l hl) j y hy hj k hm
      rw [hi] at this; cases this
    simp [upd, this]

theorem testBit_or {a i j : Nat} : (a ||| 2 ^ i).testBit j = (a.testBit j || decide (j = i)) := by
  rw [Nat.testBit_or, Nat.testBit_two_pow]
  congr 1
  by_cases h : i = j
  · simp [h]
  · simp [h]; omega

theorem allBits_iff {done : Nat} {l : List Nat} : allBits done l = true ↔ ∀ j ∈ l, done.testBit j = true := by
  induction l with
  | nil => simp [allBits]
  | cons e r ih => simp [allBits, ih]

theorem setDst_get {n : Nat} {fr ts : Tr AV} {dst : Option Tmp} {v : AV} (h : setDst n fr dst v = some ts) (t : Nat) : ts.get t = if dst = some t then some v else fr.get t := by
  cases dst with
  | none => simp [setDst] at h; subst h; simp
  | some d =>
    simp only [setDst] at h
    split at h
    · simp at h; subst h
      rw [Tr.get_set]
      by_cases e : t = d
      · subst e; simp
      · rw [if_neg e, if_neg (by simp; exact fun q => e q.symm)]
    · simp at h

theorem setDst_lt {n : Nat} {fr ts : Tr AV} {d : Tmp} {v : AV} (h : setDst n fr (some d) v = some ts) : d < n := by
  simp only [setDst] at h
  split at h
  · rename_i hd; exact Nat.le_of_ble_eq_true hd
  · simp at h

/-- the machine above does an operation; the one below has not come to it -/
theorem DI.above {P : Program} {ρ : Rho} {lo hi hi' n : Nat} {ops : Array Oper} {all : List RI} {done : Nat} {floats floats' : List (Nat × Float)} {fr ts : Tr AV} {ct : Array Value} {L : List Nat} {x : RI} {v : AV}
    (D : DI P ρ lo hi ops all done floats fr.get ct L) (hx : all[x.i]? = some x) (hd : done.testBit x.i = false) (he : allBits done (edgesOf x.o) = true) (hs : setDst n fr x.o.dst v = some ts) (hn : ct.size = n) (hh : hi ≤ hi')
    (hfl : ∀ p ∈ floats, p ∈ floats') (hu : ∀ p ∈ floats', ∀ q ∈ floats', ∀ b, newOf p.2 = some b → newOf q.2 = some b → p.1 = q.1)
    (hp : Pend P ρ lo hi' ops (only x.nm fr.get) floats' x.i x.o v) :
    DI P ρ lo hi' ops all (done ||| 2 ^ x.i) floats' ts.get ct L := by
  obtain ⟨vals, g0, v1, v2, v3⟩ := D.vals
  have hxl : x.i < ops.size := by rw [← D.info.len]; exact (List.getElem?_eq_some_iff.mp hx).1
  obtain ⟨hox, _, hdx⟩ := dst_of D.info hx
  have he' := allBits_iff.mp he
  have hinL : x.i ∈ L := by
    rcases Classical.em (x.i ∈ L) with h | h
    · exact h
    · rw [D.sub _ hxl h] at hd; cases hd
  have hcl : Closed ops (done ||| 2 ^ x.i).testBit := by
    intro i o ho hi j hj
    rw [testBit_or] at hi ⊢
    simp only [Bool.or_eq_true, decide_eq_true_eq] at hi
    rcases hi with h | rfl
    · rw [D.closed i o ho h j hj]; rfl
    · rw [hox] at ho; cases ho; rw [he' j hj]; rfl
  refine ⟨D.info, D.topo, D.lt, fun i h1 h2 => by rw [testBit_or, D.sub i h1 h2]; rfl, hcl, D.closedD, ?_, hu, upd vals x.i v, g0, fun t => ?_, fun t u h => ?_, fun i y h1 h2 h3 => ?_⟩
  · intro i y d h1 h2 h3
    rw [testBit_or] at h2
    simp only [Bool.or_eq_true, decide_eq_true_eq] at h2
    rcases h2 with h | rfl
    · exact D.dlt i y d h1 h h3
    · rw [hx] at h1; cases h1
      rw [hn]; rw [h3] at hs; exact setDst_lt hs
  · rw [cur_add hxl hd (fun j => testBit_or) (fun d hdd j h1 h2 h3 => dst_after D.info D.closed hxl hd hdd h1 h2 h3), setDst_get hs, ← hdx]
    by_cases e : dstOf ops x.i = some t
    · rw [if_pos e, if_pos e]; simp [upd]
    · rw [if_neg e, if_neg e, cur_upd hd]; exact v1 t
  · rw [cur_upd (inD_false.mpr hinL)] at h
    exact v2 t u h
  · rw [testBit_or] at h2
    simp only [Bool.or_eq_true, decide_eq_true_eq] at h2
    by_cases e : i = x.i
    · subst e
      rw [hx] at h1; cases h1
      have : only x.nm fr.get = only x.nm (cur ops (upd vals x.i v) g0 fun j => decide (j < x.i)) := by
        rw [show fr.get = cur ops vals g0 done.testBit from funext v1, env_eq (P := P) D.info D.closed hx hd he']
        refine only_congr fun t _ => (cur_upd (by simp)).symm
      rw [← this]
      simpa [upd] using hp
    · have h2' : done.testBit i = true := by rcases h2 with h | h; exact h; exact absurd h e
      rw [env_upd D.info D.closed h1 h2' hd hxl]
      simp only [upd, if_neg e]
      exact (v3 i y h1 h2' h3).mono (Nat.le_refl _) hh (fun fl h => hfl _ h) (fun b _ _ _ h => h)
end Go.EV
