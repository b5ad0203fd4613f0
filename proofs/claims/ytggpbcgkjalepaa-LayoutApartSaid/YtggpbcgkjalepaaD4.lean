/- Own text of this claim: an abstract machine over the given program form, and what follows from it. No condition. -/
import Derived.Test.YtggpbcgkjalepaaD3
set_option linter.unusedVariables false
set_option linter.unusedSimpArgs false
namespace Go.Proofs.Ytggpbcgkjalepaa
open Go Go.EV
noncomputable section

theorem ge0 (n : Int) : (!iLt n 0) = true ↔ 0 ≤ n := by rw [iLt_eq]; simp
theorem slot_cases {o s f : Int} (h : 0 ≤ slotOf o s f) : 0 ≤ o ∧ o < 56 ∧ 0 ≤ s ∧ s < 8 ∧ 0 ≤ f ∧ f < 6 ∧ slotOf o s f = 64 * o + 16 + 6 * s + f := by
  by_cases hk : 0 ≤ o ∧ o < 56 ∧ 0 ≤ s ∧ s < 8 ∧ 0 ≤ f ∧ f < 6
  · obtain ⟨h1, h2, h3, h4, h5, h6⟩ := hk
    exact ⟨h1, h2, h3, h4, h5, h6, slotOf_in h1 h2 h3 h4 h5 h6⟩
  · rw [slotOf_out hk] at h; omega
theorem obj_cases {o f : Int} (h : 0 ≤ objOf o f) : 0 ≤ o ∧ o < 56 ∧ 0 ≤ f ∧ f < 16 ∧ objOf o f = 64 * o + f := by
  by_cases hk : 0 ≤ o ∧ o < 56 ∧ 0 ≤ f ∧ f < 16
  · obtain ⟨h1, h2, h3, h4⟩ := hk
    exact ⟨h1, h2, h3, h4, objOf_in h1 h2 h3 h4⟩
  · rw [objOf_out hk] at h; omega
theorem core_cases {o f : Int} (h : 0 ≤ coreOf o f) : 0 ≤ o ∧ o < 31 ∧ 0 ≤ f ∧ f < 16 ∧ coreOf o f = 3584 + 16 * o + f := by
  by_cases hk : 0 ≤ o ∧ o < 31 ∧ 0 ≤ f ∧ f < 16
  · obtain ⟨h1, h2, h3, h4⟩ := hk
    exact ⟨h1, h2, h3, h4, coreOf_in h1 h2 h3 h4⟩
  · rw [coreOf_out hk] at h; omega

/-- a cell's lock, as a number -/
theorem guard_at {n : Int} (h1 : 0 ≤ n) (h2 : n < 4080) : guardC n = bif decide (n < 3584) then (bif decide (n % 64 < 16) then n - n % 64 else n - (n % 64 - 16) % 6) else n - (n - 3584) % 16 + 15 := by
  rw [guard_eq]
  unfold guardR gR
  rw [iLt_eq, iLt_eq, iLt_eq, iLt_eq, iEq_eq, show (n == 4095) = false by rw [beq_eq_false_iff_ne]; omega, decide_eq_false (by omega : ¬ n < 0), decide_eq_true h2, tmod_of h1]
  simp only [Bool.not_true, Bool.or_self, cond_false]
  by_cases h3 : n < 3584
  · rw [decide_eq_true h3]
    simp only [Bool.not_true, cond_false, cond_true]
    by_cases h4 : n % 64 < 16
    · rw [decide_eq_true h4]
      simp only [cond_true]
      exact W_of (by omega) (by omega)
    · rw [decide_eq_false h4]
      simp only [cond_false]
      rw [W_of (n := n % 64 - 16) (by omega) (by omega), tmod_of (by omega)]
      exact W_of (by omega) (by omega)
  · rw [decide_eq_false h3]
    simp only [Bool.not_false, cond_false, cond_true]
    rw [W_of (n := n - 3584) (by omega) (by omega), tmod_of (by omega), W_of (n := n - (n - 3584) % 16) (by omega) (by omega)]
    exact W_of (by omega) (by omega)
theorem guard_slot {o s f : Int} (h1 : 0 ≤ o) (h2 : o < 56) (h3 : 0 ≤ s) (h4 : s < 8) (h5 : 0 ≤ f) (h6 : f < 6) : guardC (64 * o + 16 + 6 * s + f) = 64 * o + 16 + 6 * s := by
  have e1 : (64 * o + 16 + 6 * s + f) % 64 = 16 + (6 * s + f) := by
    rw [show 64 * o + 16 + 6 * s + f = (16 + (6 * s + f)) + 64 * o by omega, Int.add_mul_emod_self_left]
    exact Int.emod_eq_of_lt (by omega) (by omega)
  have e2 : (6 * s + f) % 6 = f := by
    rw [show 6 * s + f = f + 6 * s by omega, Int.add_mul_emod_self_left]
    exact Int.emod_eq_of_lt (by omega) (by omega)
  rw [guard_at (by omega) (by omega), e1, decide_eq_true (by omega), decide_eq_false (by omega)]
  simp only [cond_true, cond_false]
  rw [show 16 + (6 * s + f) - 16 = 6 * s + f by omega, e2]; omega
theorem guard_obj {o f : Int} (h1 : 0 ≤ o) (h2 : o < 56) (h3 : 0 ≤ f) (h4 : f < 16) : guardC (64 * o + f) = 64 * o := by
  rw [guard_at (by omega) (by omega), decide_eq_true (by omega), decide_eq_true (by omega)]
  simp only [cond_true, cond_false]; omega
theorem guard_core {o f : Int} (h1 : 0 ≤ o) (h2 : o < 31) (h3 : 0 ≤ f) (h4 : f < 16) : guardC (3584 + 16 * o + f) = 3584 + 16 * o + 15 := by
  rw [guard_at (by omega) (by omega), decide_eq_false (by omega)]
  simp only [cond_true, cond_false]; omega

/-- what holds of a place that there is, and of its lock -/
structure Place (x l : Int) : Prop where
  lock : guardC x = l
  pos : 0 ≤ l
  own : guardC l = l
  near : l - 15 ≤ x ∧ x ≤ l + 15
  lt : 0 ≤ x ∧ x < 4080 ∧ l < 4080
theorem slot_place {o s f : Int} (h : 0 ≤ slotOf o s f) : Place (slotOf o s f) (slotOf o s 0) := by
  obtain ⟨h1, h2, h3, h4, h5, h6, h7⟩ := slot_cases h
  have h8 := slotOf_in (f := 0) h1 h2 h3 h4 (by omega) (by omega)
  have h9 := guard_slot (f := 0) h1 h2 h3 h4 (by omega) (by omega)
  rw [h7, h8]
  refine ⟨?_, by omega, ?_, by omega, by omega⟩
  · rw [guard_slot h1 h2 h3 h4 h5 h6]; omega
  · rw [h9]; omega
theorem obj_place {o f : Int} (h : 0 ≤ objOf o f) : Place (objOf o f) (objOf o 0) := by
  obtain ⟨h1, h2, h3, h4, h7⟩ := obj_cases h
  have h8 := objOf_in (f := 0) h1 h2 (by omega) (by omega)
  have h9 := guard_obj (f := 0) h1 h2 (by omega) (by omega)
  rw [h7, h8]
  refine ⟨?_, by omega, ?_, by omega, by omega⟩
  · rw [guard_obj h1 h2 h3 h4]; omega
  · rw [h9]; omega
theorem core_place {o f : Int} (h : 0 ≤ coreOf o f) : Place (coreOf o f) (coreOf o 15) := by
  obtain ⟨h1, h2, h3, h4, h7⟩ := core_cases h
  have h8 := coreOf_in (f := 15) h1 h2 (by omega) (by omega)
  have h9 := guard_core (f := 15) h1 h2 (by omega) (by omega)
  rw [h7, h8]
  exact ⟨guard_core h1 h2 h3 h4, by omega, h9, by omega, by omega⟩

theorem Place.k1 {x l : Int} (h : Place x l) : iLt (guardC x) 0 = false := by rw [h.lock, iLt_eq, decide_eq_false_iff_not]; have := h.pos; omega
theorem Place.k2 {x l : Int} (h : Place x l) : (!iEq (guardC (guardC x)) (guardC x)) = false := by rw [h.lock, h.own, iEq_eq]; simp
theorem Place.k3 {x l : Int} (h : Place x l) : iLt 15 (far (guardC x) x) = false := by
  have h1 := h.near; have h2 := h.lt; have h3 := h.pos
  unfold far
  rw [h.lock, iLt_eq, W_of (by omega) (by omega), decide_eq_false_iff_not]; omega
theorem Place.k4 {x l : Int} (h : Place x l) : iLt 15 (far x (guardC x)) = false := by
  have h1 := h.near; have h2 := h.lt; have h3 := h.pos
  unfold far
  rw [h.lock, iLt_eq, W_of (by omega) (by omega), decide_eq_false_iff_not]; omega
theorem Place.k5 {x l : Int} (h : Place x l) : (!iEq (guardC x) l) = false := by rw [h.lock, iEq_eq]; simp

theorem unlike {o s f o' s' g : Int} : (!((!iLt (slotOf o s f) 0) && (!iLt (slotOf o' s' g) 0)) || (iEq (slotOf o s f) (slotOf o' s' g) == (((o == o') && ((s == s') && true)) && iEq f g))) = true := by
  by_cases hx : 0 ≤ slotOf o s f
  · by_cases hy : 0 ≤ slotOf o' s' g
    · obtain ⟨h1, h2, h3, h4, h5, h6, h7⟩ := slot_cases hx
      obtain ⟨g1, g2, g3, g4, g5, g6, g7⟩ := slot_cases hy
      rw [Bool.or_eq_true]
      right
      rw [h7, g7, iEq_eq, iEq_eq, beq_iff_eq, Bool.eq_iff_iff]
      simp only [Bool.and_true, Bool.and_eq_true, beq_iff_eq]
      constructor
      · intro he
        have k1 : o = o' := by omega
        have k2 : s = s' := by omega
        exact ⟨⟨k1, k2⟩, by omega⟩
      · rintro ⟨⟨rfl, rfl⟩, rfl⟩; rfl
    · have : (!iLt (slotOf o' s' g) 0) = false := by rw [← Bool.not_eq_true, ge0]; exact hy
      rw [this]; simp
  · have : (!iLt (slotOf o s f) 0) = false := by rw [← Bool.not_eq_true, ge0]; exact hx
    rw [this]; rfl

theorem cells_pure (hl : PureCall Try.prog 18 [] (.bool true)) (G4 : EV.Good Try.prog S4) (o s c x f n : Int) : PureCall Try.prog 3 [key o s, i c, i x, i f, i n] (.bool true) := by
  refine pure_of_runV G4 (run3 o s c x f n) ?_ rfl rfl
  intro e he _
  simp only [List.mem_cons, List.not_mem_nil, or_false] at he
  rcases he with rfl | rfl | rfl | rfl | rfl | rfl | rfl
  · simp [iEq_eq]
  · simp
  · simp [iEq_eq]
  · simp [iEq_eq]
  · simp [iEq_eq]
  · simp [iEq_eq]
  · simp [iEq_eq, guard_eq]

theorem apart_pure (G4 : EV.Good Try.prog S4) (o s o' s' f g x : Int) : PureCall Try.prog 4 [key o s, key o' s', i f, i g, i x] (.bool true) := by
  refine pure_of_runV G4 (run4 o s o' s' f g x (!iLt (slotOf o s f) 0) (!iLt (slotOf o' s' g) 0) (iEq (slotOf o s f) (slotOf o' s' g)) ((o == o') && ((s == s') && true)) (iEq f g) (!iLt (objOf x f) 0) (!iLt (coreOf x g) 0) unlike) ?_ rfl rfl
  have A : (!iLt (slotOf o s f) 0) = true → Place (slotOf o s f) (slotOf o s 0) := fun h => slot_place ((ge0 _).mp h)
  have Q : (!iLt (objOf x f) 0) = true → Place (objOf x f) (objOf x 0) := fun h => obj_place ((ge0 _).mp h)
  have R : (!iLt (coreOf x g) 0) = true → Place (coreOf x g) (coreOf x 15) := fun h => core_place ((ge0 _).mp h)
  have e1 : (!iLt (slotOf o s f) 0) = true → iEq (slotOf o s f) (objOf x f) = false := by
    intro h
    obtain ⟨h1, h2, h3, h4, h5, h6, h7⟩ := slot_cases ((ge0 _).mp h)
    rw [iEq_eq, beq_eq_false_iff_ne]
    intro he
    obtain ⟨g1, g2, g3, g4, g5⟩ := obj_cases (o := x) (f := f) (by omega)
    omega
  have e2 : (!iLt (slotOf o s f) 0) = true → iEq (slotOf o s f) (coreOf x g) = false := by
    intro h
    obtain ⟨h1, h2, h3, h4, h5, h6, h7⟩ := slot_cases ((ge0 _).mp h)
    rw [iEq_eq, beq_eq_false_iff_ne]
    intro he
    obtain ⟨g1, g2, g3, g4, g5⟩ := core_cases (o := x) (f := g) (by omega)
    omega
  have e3 : (!iLt (objOf x f) 0) = true → iEq (objOf x f) (coreOf x g) = false := by
    intro h
    obtain ⟨h1, h2, h3, h4, h7⟩ := obj_cases ((ge0 _).mp h)
    rw [iEq_eq, beq_eq_false_iff_ne]
    intro he
    obtain ⟨g1, g2, g3, g4, g5⟩ := core_cases (o := x) (f := g) (by omega)
    omega
  intro e he hr
  simp only [List.mem_cons, List.not_mem_nil, or_false] at he
  rcases he with rfl | rfl | rfl | rfl | rfl | rfl | rfl | rfl | rfl | rfl | rfl | rfl | rfl | rfl | rfl | rfl | rfl | rfl | rfl | rfl | rfl | rfl | rfl | rfl | rfl | rfl | rfl | rfl | rfl | rfl | rfl
  all_goals first
    | rfl
    | exact (Bool.not_not _).symm
    | exact e1 hr
    | exact e2 hr
    | exact e3 hr
    | exact (A hr).k1
    | exact (A hr).k2
    | exact (A hr).k3
    | exact (A hr).k4
    | exact (A hr).k5
    | exact (Q hr).k1
    | exact (Q hr).k2
    | exact (Q hr).k3
    | exact (Q hr).k4
    | exact (Q hr).k5
    | exact (R hr).k1
    | exact (R hr).k2
    | exact (R hr).k3
    | exact (R hr).k4
    | exact (R hr).k5
end
end Go.Proofs.Ytggpbcgkjalepaa
