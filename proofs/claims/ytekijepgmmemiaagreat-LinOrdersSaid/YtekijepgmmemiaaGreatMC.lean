/- Own text of this claim: an abstract machine over the given program form, and what follows from it. No condition. -/
import Derived.Test.YtekijepgmmemiaaGreatMB
set_option linter.unusedVariables false
set_option linter.unusedSimpArgs false
namespace Go.EV.Srt
/-! rows of numbers, sorted by a key and, if that is the same, by themselves -/
def lt (K : Int → Int) (v w : Int) : Prop := K v < K w ∨ (K v = K w ∧ v < w)
theorem lt.trans {K : Int → Int} {u v w : Int} (h : lt K u v) (g : lt K v w) : lt K u w := by
  unfold lt at *; omega
theorem lt.irr {K : Int → Int} {v : Int} : ¬ lt K v v := by unfold lt; omega
theorem lt.asymm {K : Int → Int} {u v : Int} (h : lt K u v) : ¬ lt K v u := by unfold lt at *; omega
def Srt (K : Int → Int) (x : Nat → Int) (a b : Nat) : Prop := ∀ i j, a ≤ i → i < j → j < b → lt K (x i) (x j)
def Cross (K : Int → Int) (x : Nat → Int) (a m b : Nat) : Prop := ∀ i j, a ≤ i → i < m → m ≤ j → j < b → K (x i) = K (x j) → x i < x j
def Inc (x : Nat → Int) (a b : Nat) : Prop := ∀ i j, a ≤ i → i < j → j < b → x i < x j
structure PermOn (a b : Nat) (x y : Nat → Int) : Prop where
  out : ∀ i, i < a ∨ b ≤ i → y i = x i
  fwd : ∀ i, a ≤ i → i < b → ∃ j, a ≤ j ∧ j < b ∧ x i = y j
  bwd : ∀ i, a ≤ i → i < b → ∃ j, a ≤ j ∧ j < b ∧ y i = x j
theorem PermOn.refl (a b : Nat) (x : Nat → Int) : PermOn a b x x := ⟨fun _ _ => rfl, fun i h1 h2 => ⟨i, h1, h2, rfl⟩, fun i h1 h2 => ⟨i, h1, h2, rfl⟩⟩
theorem PermOn.trans {a b : Nat} {x y z : Nat → Int} (h : PermOn a b x y) (g : PermOn a b y z) : PermOn a b x z :=
  ⟨fun i hi => (g.out i hi).trans (h.out i hi), fun i h1 h2 => by
    obtain ⟨j, j1, j2, j3⟩ := h.fwd i h1 h2
    obtain ⟨k, k1, k2, k3⟩ := g.fwd j j1 j2
    exact ⟨k, k1, k2, j3.trans k3⟩, fun i h1 h2 => by
    obtain ⟨j, j1, j2, j3⟩ := g.bwd i h1 h2
    obtain ⟨k, k1, k2, k3⟩ := h.bwd j j1 j2
    exact ⟨k, k1, k2, j3.trans k3⟩⟩
theorem PermOn.wide {a b a' b' : Nat} {x y : Nat → Int} (h : PermOn a b x y) (ha : a' ≤ a) (hb : b ≤ b') : PermOn a' b' x y :=
  ⟨fun i hi => h.out i (by omega), fun i h1 h2 => by
    by_cases hi : a ≤ i ∧ i < b
    · obtain ⟨j, j1, j2, j3⟩ := h.fwd i hi.1 hi.2
      exact ⟨j, by omega, by omega, j3⟩
    · exact ⟨i, h1, h2, (h.out i (by omega)).symm⟩, fun i h1 h2 => by
    by_cases hi : a ≤ i ∧ i < b
    · obtain ⟨j, j1, j2, j3⟩ := h.bwd i hi.1 hi.2
      exact ⟨j, by omega, by omega, j3⟩
    · exact ⟨i, h1, h2, h.out i (by omega)⟩⟩
def swp (x : Nat → Int) (i j k : Nat) : Int := if k = i then x j else if k = j then x i else x k
theorem swp_perm {x : Nat → Int} {i j a b : Nat} (h1 : a ≤ i) (h2 : i < b) (h3 : a ≤ j) (h4 : j < b) : PermOn a b x (swp x i j) := by
  refine ⟨fun k hk => ?_, fun k k1 k2 => ?_, fun k k1 k2 => ?_⟩
  · unfold swp; rw [if_neg (by omega), if_neg (by omega)]
  · by_cases e1 : k = i
    · refine ⟨j, h3, h4, ?_⟩
      unfold swp
      by_cases e : j = i
      · rw [if_pos e, e1, e]
      · rw [if_neg e, if_pos rfl, e1]
    · by_cases e2 : k = j
      · exact ⟨i, h1, h2, by unfold swp; rw [if_pos rfl, e2]⟩
      · exact ⟨k, k1, k2, by unfold swp; rw [if_neg e1, if_neg e2]⟩
  · unfold swp
    by_cases e1 : k = i
    · exact ⟨j, h3, h4, by rw [if_pos e1]⟩
    · by_cases e2 : k = j
      · exact ⟨i, h1, h2, by rw [if_neg e1, if_pos e2]⟩
      · exact ⟨k, k1, k2, by rw [if_neg e1, if_neg e2]⟩

/-! insertion -/
def down (K : Int → Int) (a : Nat) : Nat → (Nat → Int) → Nat → Int
  | 0, x => x
  | j + 1, x => if a < j + 1 ∧ K (x (j + 1)) < K (x j) then down K a j (swp x (j + 1) j) else x
def insS (K : Int → Int) (a : Nat) : Nat → (Nat → Int) → Nat → Int
  | 0, x => x
  | d + 1, x => down K a (a + d + 1) (insS K a d x)
theorem down_perm {K : Int → Int} {a : Nat} : ∀ {j : Nat} {x : Nat → Int} {b : Nat}, a ≤ j → j < b → PermOn a b x (down K a j x)
  | 0, x, b, _, _ => PermOn.refl a b x
  | j + 1, x, b, h1, h2 => by
    unfold down
    split
    · rename_i h
      exact (swp_perm (by omega) h2 (by omega) (by omega)).trans (down_perm (by omega) (by omega))
    · exact PermOn.refl a b x
/-- all ahead of j and all behind it are sorted; j itself is ahead of all behind, and was the last -/
theorem down_srt {K : Int → Int} {a b : Nat} : ∀ {j : Nat} {x : Nat → Int}, a ≤ j → j < b → (∀ i k, a ≤ i → i < k → k < b → i ≠ j → k ≠ j → lt K (x i) (x k)) → (∀ i, a ≤ i → i < j → x i < x j) → (∀ k, j < k → k < b → lt K (x j) (x k)) → Srt K (down K a j x) a b
  | 0, x, h1, h2, hs, hi, hk => fun i k q1 q2 q3 => by
    show lt K (x i) (x k)
    by_cases e : i = 0
    · subst e; exact hk k q2 q3
    · exact hs i k q1 q2 q3 e (by omega)
  | j + 1, x, h1, h2, hs, hi, hk => by
    unfold down
    split
    · rename_i h
      obtain ⟨ha, hlt⟩ := h
      refine down_srt (by omega) (by omega) ?_ ?_ ?_
      · intro i k q1 q2 q3 n1 n2
        unfold swp
        rw [if_neg n1, if_neg n2]
        by_cases e1 : i = j + 1
        · rw [if_pos e1, if_neg (by omega)]
          exact hs j k (by omega) (by omega) q3 (by omega) (by omega)
        · rw [if_neg e1]
          by_cases e2 : k = j + 1
          · rw [if_pos e2]
            exact hs i j q1 (by omega) (by omega) (by omega) (by omega)
          · rw [if_neg e2]
            exact hs i k q1 q2 q3 e1 e2
      · intro i q1 q2
        unfold swp
        rw [if_neg (by omega), if_neg (by omega), if_neg (by omega), if_pos rfl]
        exact hi i q1 (by omega)
      · intro k q1 q2
        unfold swp
        rw [if_neg (by omega), if_pos rfl, if_neg (show k ≠ j by omega)]
        by_cases e : k = j + 1
        · rw [if_pos e]; exact .inl hlt
        · rw [if_neg e]; exact hk k (by omega) q2
    · rename_i h
      intro i k q1 q2 q3
      by_cases e1 : i = j + 1
      · subst e1; exact hk k q2 q3
      · by_cases e2 : k = j + 1
        · subst e2
          have hj : lt K (x j) (x (j + 1)) := by
            have := hi j (by omega) (by omega)
            unfold lt; omega
          by_cases e3 : i = j
          · subst e3; exact hj
          · exact (hs i j q1 (by omega) (by omega) (by omega) (by omega)).trans hj
        · exact hs i k q1 q2 q3 e1 e2
theorem insS_spec {K : Int → Int} {a b : Nat} {x : Nat → Int} (hx : Inc x a b) : ∀ d, a + d < b → Srt K (insS K a d x) a (a + d + 1) ∧ PermOn a (a + d + 1) x (insS K a d x)
  | 0, _ => ⟨fun i j h1 h2 h3 => by omega, PermOn.refl _ _ _⟩
  | d + 1, h => by
    obtain ⟨h1, h2⟩ := insS_spec hx d (by omega)
    refine ⟨down_srt (by omega) (by omega) ?_ ?_ ?_, (h2.wide (Nat.le_refl _) (by omega)).trans (down_perm (by omega) (by omega))⟩
    · intro i k q1 q2 q3 n1 n2
      exact h1 i k q1 q2 (by omega)
    · intro i q1 q2
      obtain ⟨j, j1, j2, j3⟩ := h2.bwd i q1 (by omega)
      rw [j3, h2.out (a + d + 1) (by omega)]
      exact hx j (a + d + 1) j1 (by omega) (by omega)
    · intro k q1 q2; omega
theorem insS_one {K : Int → Int} {a : Nat} {x : Nat → Int} : insS K a 0 x = x := rfl

/-! searching -/
def bsr (P : Nat → Bool) : Nat → Nat → Nat → Nat
  | 0, i, _ => i
  | f + 1, i, j => if i < j then (if P ((i + j) / 2) then bsr P f ((i + j) / 2 + 1) j else bsr P f i ((i + j) / 2)) else i
theorem bsr_spec {P : Nat → Bool} : ∀ {f i j : Nat}, i ≤ j → j - i ≤ f → (∀ k l, i ≤ k → k < l → l < j → P l = true → P k = true) → i ≤ bsr P f i j ∧ bsr P f i j ≤ j ∧ (∀ k, i ≤ k → k < bsr P f i j → P k = true) ∧ (∀ k, bsr P f i j ≤ k → k < j → P k = false)
  | 0, i, j, h1, h2, _ => ⟨Nat.le_refl _, h1, fun k q1 q2 => (by have q2 : k < i := q2; omega), fun k q1 q2 => (by have q1 : i ≤ k := q1; omega)⟩
  | f + 1, i, j, h1, h2, hm => by
    unfold bsr
    by_cases hij : i < j
    · rw [if_pos hij]
      cases hp : P ((i + j) / 2) with
      | true =>
        rw [if_pos rfl]
        obtain ⟨r1, r2, r3, r4⟩ := bsr_spec (P := P) (f := f) (i := (i + j) / 2 + 1) (j := j) (by omega) (by omega) (fun k l q1 q2 q3 => hm k l (by omega) q2 q3)
        refine ⟨by omega, r2, fun k q1 q2 => ?_, r4⟩
        rcases Nat.lt_or_ge k ((i + j) / 2 + 1) with h | h
        · by_cases e : k = (i + j) / 2
          · rw [e]; exact hp
          · exact hm k ((i + j) / 2) q1 (by omega) (by omega) hp
        · exact r3 k h q2
      | false =>
        rw [if_neg (by simp)]
        obtain ⟨r1, r2, r3, r4⟩ := bsr_spec (P := P) (f := f) (i := i) (j := (i + j) / 2) (by omega) (by omega) (fun k l q1 q2 q3 => hm k l q1 q2 (by omega))
        refine ⟨r1, by omega, r3, fun k q1 q2 => ?_⟩
        rcases Nat.lt_or_ge k ((i + j) / 2) with h | h
        · exact r4 k q1 h
        · cases hk : P k with
          | false => rfl
          | true =>
            by_cases e : k = (i + j) / 2
            · rw [e, hp] at hk; cases hk
            · have := hm ((i + j) / 2) k (by omega) (by omega) q2 hk
              rw [hp] at this; cases this
    · rw [if_neg hij]
      exact ⟨Nat.le_refl _, h1, fun k q1 q2 => by omega, fun k q1 q2 => by omega⟩

/-! moving -/
/-- what is at a comes to i - 1 -/
def mvU (x : Nat → Int) (a i k : Nat) : Int := if a ≤ k ∧ k + 1 < i then x (k + 1) else if k + 1 = i ∧ a ≤ k then x a else x k
/-- what is at m comes to i -/
def mvD (x : Nat → Int) (m i k : Nat) : Int := if k = i ∧ i ≤ m then x m else if i < k ∧ k ≤ m then x (k - 1) else x k
def rot (x : Nat → Int) (a m b k : Nat) : Int := if k < a ∨ b ≤ k then x k else if k < a + (b - m) then x (m + (k - a)) else x (a + (k - (a + (b - m))))
theorem rot_perm {x : Nat → Int} {a m b : Nat} (h1 : a ≤ m) (h2 : m ≤ b) : PermOn a b x (rot x a m b) := by
  refine ⟨fun k hk => ?_, fun k k1 k2 => ?_, fun k k1 k2 => ?_⟩
  · unfold rot; rw [if_pos hk]
  · rcases Nat.lt_or_ge k m with h | h
    · refine ⟨a + (b - m) + (k - a), by omega, by omega, ?_⟩
      unfold rot
      rw [if_neg (by omega), if_neg (by omega)]
      congr 1; omega
    · refine ⟨a + (k - m), by omega, by omega, ?_⟩
      unfold rot
      rw [if_neg (by omega), if_pos (by omega)]
      congr 1; omega
  · unfold rot
    rw [if_neg (by omega)]
    split
    · exact ⟨_, by omega, by omega, rfl⟩
    · exact ⟨_, by omega, by omega, rfl⟩
theorem mvU_perm {x : Nat → Int} {a i b : Nat} (h1 : a < i) (h2 : i ≤ b) : PermOn a b x (mvU x a i) := by
  refine ⟨fun k hk => ?_, fun k k1 k2 => ?_, fun k k1 k2 => ?_⟩
  · unfold mvU; rw [if_neg (by omega), if_neg (by omega)]
  · by_cases e : k = a
    · refine ⟨i - 1, by omega, by omega, ?_⟩
      unfold mvU; rw [if_neg (by omega), if_pos (by omega), e]
    · rcases Nat.lt_or_ge k i with h | h
      · refine ⟨k - 1, by omega, by omega, ?_⟩
        unfold mvU; rw [if_pos (by omega)]; congr 1; omega
      · refine ⟨k, k1, k2, ?_⟩
        unfold mvU; rw [if_neg (by omega), if_neg (by omega)]
  · unfold mvU
    split
    · exact ⟨k + 1, by omega, by omega, rfl⟩
    · split
      · exact ⟨a, by omega, by omega, rfl⟩
      · exact ⟨k, k1, k2, rfl⟩
theorem mvD_perm {x : Nat → Int} {m i a b : Nat} (h0 : a ≤ i) (h1 : i ≤ m) (h2 : m < b) : PermOn a b x (mvD x m i) := by
  refine ⟨fun k hk => ?_, fun k k1 k2 => ?_, fun k k1 k2 => ?_⟩
  · unfold mvD; rw [if_neg (by omega), if_neg (by omega)]
  · by_cases e : k = m
    · refine ⟨i, by omega, by omega, ?_⟩
      unfold mvD; rw [if_pos (by omega), e]
    · by_cases h : i ≤ k ∧ k < m
      · refine ⟨k + 1, by omega, by omega, ?_⟩
        unfold mvD; rw [if_neg (by omega), if_pos (by omega)]; congr 1
      · refine ⟨k, k1, k2, ?_⟩
        unfold mvD; rw [if_neg (by omega), if_neg (by omega)]
  · unfold mvD
    split
    · exact ⟨m, by omega, by omega, rfl⟩
    · split
      · exact ⟨k - 1, by omega, by omega, rfl⟩
      · exact ⟨k, k1, k2, rfl⟩

/-! merging in place -/
def P1 (K : Int → Int) (x : Nat → Int) (a : Nat) (h : Nat) : Bool := decide (K (x h) < K (x a))
def P2 (K : Int → Int) (x : Nat → Int) (m : Nat) (h : Nat) : Bool := !decide (K (x m) < K (x h))
def P3 (K : Int → Int) (x : Nat → Int) (p : Nat) (c : Nat) : Bool := !decide (K (x (p - c)) < K (x c))
def st0 (a m b : Nat) : Nat := if (a + b) / 2 < m then (a + b) / 2 + m - b else a
def r0 (a m b : Nat) : Nat := if (a + b) / 2 < m then (a + b) / 2 else m
def stS (K : Int → Int) (x : Nat → Int) (a m b : Nat) : Nat := bsr (P3 K x ((a + b) / 2 + m - 1)) (r0 a m b - st0 a m b) (st0 a m b) (r0 a m b)
def symM (K : Int → Int) : Nat → (Nat → Int) → Nat → Nat → Nat → Nat → Int
  | 0, x, _, _, _ => x
  | f + 1, x, a, m, b =>
    if m - a = 1 then mvU x a (bsr (P1 K x a) (b - m) m b)
    else if b - m = 1 then mvD x m (bsr (P2 K x m) (m - a) a m)
    else
      let mid := (a + b) / 2
      let s := stS K x a m b
      let e := mid + m - s
      let x1 := if s < m ∧ m < e then rot x s m e else x
      let x2 := if a < s ∧ s < mid then symM K f x1 a s mid else x1
      if mid < e ∧ e < b then symM K f x2 mid e b else x2
theorem Srt.sub {K : Int → Int} {x : Nat → Int} {a b a' b' : Nat} (h : Srt K x a b) (h1 : a ≤ a') (h2 : b' ≤ b) : Srt K x a' b' := fun i j q1 q2 q3 => h i j (by omega) q2 (by omega)
theorem Srt.le {K : Int → Int} {x : Nat → Int} {a b i j : Nat} (h : Srt K x a b) (h1 : a ≤ i) (h2 : i ≤ j) (h3 : j < b) : K (x i) ≤ K (x j) := by
  by_cases e : i = j
  · subst e; omega
  · have := h i j h1 (by omega) h3
    unfold lt at this; omega
theorem symM_spec {K : Int → Int} : ∀ {f : Nat} {x : Nat → Int} {a m b : Nat}, a < m → m < b → b - a ≤ f → Srt K x a m → Srt K x m b → Cross K x a m b → Srt K (symM K f x a m b) a b ∧ PermOn a b x (symM K f x a m b)
  | 0, x, a, m, b, h1, h2, h3, _, _, _ => by omega
  | f + 1, x, a, m, b, h1, h2, h3, hs, ht, hc => by
    unfold symM
    by_cases c1 : m - a = 1
    · rw [if_pos c1]
      obtain ⟨r1, r2, r3, r4⟩ := bsr_spec (P := P1 K x a) (f := b - m) (i := m) (j := b) (by omega) (by omega) (fun k l q1 q2 q3 q4 => by
        simp only [P1, decide_eq_true_eq] at q4 ⊢
        have := ht.le q1 (Nat.le_of_lt q2) q3
        omega)
      revert r1 r2 r3 r4
      generalize bsr (P1 K x a) (b - m) m b = i
      intro r1 r2 r3 r4
      have hlo : ∀ k, m ≤ k → k < i → lt K (x k) (x a) := fun k q1 q2 => by
        have := r3 k q1 q2
        simp only [P1, decide_eq_true_eq] at this
        exact .inl this
      have hhi : ∀ k, i ≤ k → k < b → lt K (x a) (x k) := fun k q1 q2 => by
        have := r4 k q1 q2
        simp only [P1, decide_eq_false_iff_not] at this
        have hx := hc a k (by omega) (by omega) (by omega) q2
        unfold lt
        by_cases e : K (x a) = K (x k)
        · exact .inr ⟨e, hx e⟩
        · omega
      refine ⟨fun p q p1 p2 p3 => ?_, mvU_perm (by omega) (by omega)⟩
      unfold mvU
      by_cases e1 : a ≤ p ∧ p + 1 < i
      · rw [if_pos e1]
        by_cases e2 : a ≤ q ∧ q + 1 < i
        · rw [if_pos e2]; exact ht _ _ (by omega) (by omega) (by omega)
        · rw [if_neg e2]
          by_cases e3 : q + 1 = i ∧ a ≤ q
          · rw [if_pos e3]; exact hlo _ (by omega) (by omega)
          · rw [if_neg e3]; exact ht _ _ (by omega) (by omega) (by omega)
      · rw [if_neg e1, if_neg (show ¬ (a ≤ q ∧ q + 1 < i) by omega), if_neg (show ¬ (q + 1 = i ∧ a ≤ q) by omega)]
        by_cases e3 : p + 1 = i ∧ a ≤ p
        · rw [if_pos e3]; exact hhi _ (by omega) p3
        · rw [if_neg e3]; exact ht _ _ (by omega) (by omega) (by omega)
    · rw [if_neg c1]
      by_cases c2 : b - m = 1
      · rw [if_pos c2]
        obtain ⟨r1, r2, r3, r4⟩ := bsr_spec (P := P2 K x m) (f := m - a) (i := a) (j := m) (by omega) (by omega) (fun k l q1 q2 q3 q4 => by
          simp only [P2, Bool.not_eq_true', decide_eq_false_iff_not] at q4 ⊢
          have := hs.le q1 (Nat.le_of_lt q2) q3
          omega)
        revert r1 r2 r3 r4
        generalize bsr (P2 K x m) (m - a) a m = i
        intro r1 r2 r3 r4
        have hlo : ∀ k, a ≤ k → k < i → lt K (x k) (x m) := fun k q1 q2 => by
          have := r3 k q1 q2
          simp only [P2, Bool.not_eq_true', decide_eq_false_iff_not] at this
          have hx := hc k m q1 (by omega) (by omega) (by omega)
          unfold lt
          by_cases e : K (x k) = K (x m)
          · exact .inr ⟨e, hx e⟩
          · omega
        have hhi : ∀ k, i ≤ k → k < m → lt K (x m) (x k) := fun k q1 q2 => by
          have := r4 k q1 q2
          simp only [P2, Bool.not_eq_false', decide_eq_true_eq] at this
          exact .inl this
        refine ⟨fun p q p1 p2 p3 => ?_, mvD_perm (by omega) (by omega) (by omega)⟩
        unfold mvD
        by_cases e1 : p = i ∧ i ≤ m
        · rw [if_pos e1, if_neg (show ¬ (q = i ∧ i ≤ m) by omega), if_pos (by omega)]
          exact hhi _ (by omega) (by omega)
        · rw [if_neg e1]
          by_cases e2 : i < p ∧ p ≤ m
          · rw [if_pos e2, if_neg (show ¬ (q = i ∧ i ≤ m) by omega), if_pos (by omega)]
            exact hs _ _ (by omega) (by omega) (by omega)
          · rw [if_neg e2]
            by_cases e3 : q = i ∧ i ≤ m
            · rw [if_pos e3]; exact hlo _ (by omega) (by omega)
            · rw [if_neg e3]
              by_cases e4 : i < q ∧ q ≤ m
              · rw [if_pos e4]; exact hs _ _ (by omega) (by omega) (by omega)
              · rw [if_neg e4]; exact hs _ _ (by omega) (by omega) (by omega)
      · rw [if_neg c2]
        simp only
        have hst : st0 a m b ≤ r0 a m b := by unfold st0 r0; split <;> omega
        have hrm : r0 a m b ≤ m ∧ r0 a m b ≤ (a + b) / 2 := by unfold r0; split <;> omega
        have hsa : a ≤ st0 a m b := by unfold st0; split <;> omega
        have hpb : ∀ c, st0 a m b ≤ c → (a + b) / 2 + m - 1 - c < b := by intro c hc; unfold st0 at hc; split at hc <;> omega
        obtain ⟨r1, r2, r3, r4⟩ := bsr_spec (P := P3 K x ((a + b) / 2 + m - 1)) (f := r0 a m b - st0 a m b) (i := st0 a m b) (j := r0 a m b) hst (by omega) (fun k l q1 q2 q3 q4 => by
          simp only [P3, Bool.not_eq_true', decide_eq_false_iff_not] at q4 ⊢
          have g1 := hs.le (i := k) (j := l) (by omega) (Nat.le_of_lt q2) (by omega)
          have g2 := ht.le (i := (a + b) / 2 + m - 1 - l) (j := (a + b) / 2 + m - 1 - k) (by omega) (by omega) (hpb k q1)
          omega)
        have hsS : bsr (P3 K x ((a + b) / 2 + m - 1)) (r0 a m b - st0 a m b) (st0 a m b) (r0 a m b) = stS K x a m b := rfl
        rw [hsS] at r1 r2 r3 r4
        revert r1 r2 r3 r4
        generalize stS K x a m b = s
        intro r1 r2 r3 r4
        obtain ⟨mid, hmid⟩ : ∃ mid, mid = (a + b) / 2 := ⟨_, rfl⟩
        rw [← hmid]
        rw [← hmid] at hpb r3 r4 hrm
        obtain ⟨e, he⟩ : ∃ e, e = mid + m - s := ⟨_, rfl⟩
        rw [← he]
        have hsm : s ≤ m := by omega
        have hsmid : s ≤ mid := by omega
        have hme : m ≤ e := by omega
        have heb : e ≤ b := by
          have h := r1
          unfold st0 at h
          split at h <;> omega
        -- what is ahead of s is ahead of what is from e on
        have hL : ∀ c j, a ≤ c → c < s → e ≤ j → j < b → lt K (x c) (x j) := by
          intro c j q1 q2 q3 q4
          have h0 : st0 a m b ≤ s - 1 := by
            have h := r1
            unfold st0 at h ⊢
            split at h
            · rw [if_pos (by assumption)]
              by_cases e' : s = (a + b) / 2 + m - b
              · omega
              · omega
            · rw [if_neg (by assumption)]; omega
          have := r3 (s - 1) h0 (by omega)
          simp only [P3, Bool.not_eq_true', decide_eq_false_iff_not] at this
          rw [show mid + m - 1 - (s - 1) = e by omega] at this
          have g1 := hs.le (i := c) (j := s - 1) q1 (by omega) (by omega)
          have g2 := ht.le (i := e) (j := j) (by omega) q3 q4
          have g3 := hc c j q1 (by omega) (by omega) q4
          unfold lt
          by_cases e' : K (x c) = K (x j)
          · exact .inr ⟨e', g3 e'⟩
          · omega
        have hR : ∀ j c, m ≤ j → j < e → s ≤ c → c < m → lt K (x j) (x c) := by
          intro j c q1 q2 q3 q4
          have h0 : s < r0 a m b := by
            have h := r2
            unfold r0 at h ⊢
            split at h
            · rw [if_pos (by assumption)]; omega
            · rw [if_neg (by assumption)]; omega
          have := r4 s (Nat.le_refl _) h0
          simp only [P3, Bool.not_eq_false', decide_eq_true_eq] at this
          rw [show mid + m - 1 - s = e - 1 by omega] at this
          have g1 := hs.le (i := s) (j := c) (by omega) q3 q4
          have g2 := ht.le (i := j) (j := e - 1) q1 (by omega) (by omega)
          exact .inl (by omega)
        -- the row behind the rotation
        obtain ⟨x1, hx1⟩ : ∃ x1, x1 = (if s < m ∧ m < e then rot x s m e else x) := ⟨_, rfl⟩
        rw [← hx1]
        have hp1 : PermOn a b x x1 := by
          rw [hx1]; split
          · exact (rot_perm hsm hme).wide (by omega) heb
          · exact PermOn.refl _ _ _
        have v1 : ∀ k, k < s → x1 k = x k := by
          intro k hk
          rw [hx1]; split
          · unfold rot; rw [if_pos (by omega)]
          · rfl
        have v2 : ∀ k, s ≤ k → k < mid → x1 k = x (m + (k - s)) := by
          intro k q1 q2
          rw [hx1]; split
          · unfold rot; rw [if_neg (by omega), if_pos (by omega)]
          · congr 1; omega
        have v3 : ∀ k, mid ≤ k → k < e → x1 k = x (s + (k - mid)) := by
          intro k q1 q2
          rw [hx1]; split
          · unfold rot; rw [if_neg (by omega), if_neg (by omega)]; congr 1; omega
          · congr 1; omega
        have v4 : ∀ k, e ≤ k → x1 k = x k := by
          intro k hk
          rw [hx1]; split
          · unfold rot; rw [if_pos (by omega)]
          · rfl
        -- the front
        have a1 : Srt K x1 a s := fun i j q1 q2 q3 => by rw [v1 i (by omega), v1 j q3]; exact hs i j q1 q2 (by omega)
        have a2 : Srt K x1 s mid := fun i j q1 q2 q3 => by rw [v2 i q1 (by omega), v2 j (by omega) q3]; exact ht _ _ (by omega) (by omega) (by omega)
        have a3 : Cross K x1 a s mid := fun i j q1 q2 q3 q4 => by rw [v1 i q2, v2 j q3 q4]; exact hc _ _ q1 (by omega) (by omega) (by omega)
        obtain ⟨x2, hx2⟩ : ∃ x2, x2 = (if a < s ∧ s < mid then symM K f x1 a s mid else x1) := ⟨_, rfl⟩
        rw [← hx2]
        have b1 : Srt K x2 a mid ∧ PermOn a mid x1 x2 := by
          rw [hx2]
          by_cases hq : a < s ∧ s < mid
          · rw [if_pos hq]
            exact symM_spec hq.1 hq.2 (by omega) a1 a2 a3
          · rw [if_neg hq]
            refine ⟨?_, PermOn.refl _ _ _⟩
            by_cases q1 : s = a
            · rw [← q1]; exact a2
            · have : s = mid := by omega
              rw [← this]; exact a1
        -- the back
        have w3 : ∀ k, mid ≤ k → x2 k = x1 k := fun k hk => b1.2.out k (.inr hk)
        have c1' : Srt K x2 mid e := fun i j q1 q2 q3 => by rw [w3 i q1, w3 j (by omega), v3 i q1 (by omega), v3 j (by omega) q3]; exact hs _ _ (by omega) (by omega) (by omega)
        have c2' : Srt K x2 e b := fun i j q1 q2 q3 => by rw [w3 i (by omega), w3 j (by omega), v4 i q1, v4 j (by omega)]; exact ht _ _ (by omega) q2 q3
        have c3' : Cross K x2 mid e b := fun i j q1 q2 q3 q4 => by rw [w3 i q1, w3 j (by omega), v3 i q1 q2, v4 j q3]; exact hc _ _ (by omega) (by omega) (by omega) q4
        obtain ⟨x3, hx3⟩ : ∃ x3, x3 = (if mid < e ∧ e < b then symM K f x2 mid e b else x2) := ⟨_, rfl⟩
        rw [← hx3]
        have d1 : Srt K x3 mid b ∧ PermOn mid b x2 x3 := by
          rw [hx3]
          by_cases hq : mid < e ∧ e < b
          · rw [if_pos hq]
            exact symM_spec hq.1 hq.2 (by omega) c1' c2' c3'
          · rw [if_neg hq]
            refine ⟨?_, PermOn.refl _ _ _⟩
            by_cases q1 : e = mid
            · rw [← q1]; exact c2'
            · have : e = b := by omega
              rw [← this]; exact c1'
        have hperm : PermOn a b x x3 := (hp1.trans (b1.2.wide (Nat.le_refl _) (by omega))).trans (d1.2.wide (by omega) (Nat.le_refl _))
        refine ⟨fun i j q1 q2 q3 => ?_, hperm⟩
        rcases Nat.lt_or_ge j mid with hj | hj
        · rw [d1.2.out i (by omega), d1.2.out j (by omega)]
          exact b1.1 i j q1 q2 hj
        · rcases Nat.lt_or_ge i mid with hi | hi
          · rw [d1.2.out i (by omega)]
            obtain ⟨i', i1, i2, i3⟩ := b1.2.bwd i q1 hi
            obtain ⟨j', j1, j2, j3⟩ := d1.2.bwd j hj q3
            rw [i3, j3, w3 j' j1]
            rcases Nat.lt_or_ge i' s with u1 | u1
            · rw [v1 i' u1]
              rcases Nat.lt_or_ge j' e with u2 | u2
              · rw [v3 j' j1 u2]; exact hs _ _ i1 (by omega) (by omega)
              · rw [v4 j' u2]; exact hL _ _ i1 u1 u2 j2
            · rw [v2 i' u1 i2]
              rcases Nat.lt_or_ge j' e with u2 | u2
              · rw [v3 j' j1 u2]; exact hR _ _ (by omega) (by omega) (by omega) (by omega)
              · rw [v4 j' u2]; exact ht _ _ (by omega) (by omega) j2
          · exact d1.1 i j hi q2 q3
/-- the library's stable sort, of up to 40 numbers -/
def stab (K : Int → Int) (x : Nat → Int) (n : Nat) : Nat → Int :=
  if n < 20 then insS K 0 (n - 1) x else if n = 20 then insS K 0 19 x else symM K 40 (insS K 20 (n - 20 - 1) (insS K 0 19 x)) 0 20 n
theorem stab_spec {K : Int → Int} {x : Nat → Int} {n : Nat} (hn : n ≤ 40) (hx : Inc x 0 n) : Srt K (stab K x n) 0 n ∧ PermOn 0 n x (stab K x n) := by
  unfold stab
  split
  · rename_i h
    rcases Nat.eq_zero_or_pos n with e | e
    · subst e; exact ⟨fun i j _ _ _ => by omega, PermOn.refl _ _ _⟩
    · have := insS_spec (K := K) hx (n - 1) (by omega)
      rw [show 0 + (n - 1) + 1 = n by omega] at this
      exact this
  · split
    · rename_i h
      have := insS_spec (K := K) hx 19 (by omega)
      rw [h]; exact this
    · rename_i h1 h2
      have g1 := insS_spec (K := K) (a := 0) (b := 20) (x := x) (fun i j q1 q2 q3 => hx i j q1 q2 (by omega)) 19 (by omega)
      rw [show 0 + 19 + 1 = 20 by omega] at g1
      have hx2 : Inc (insS K 0 19 x) 20 n := fun i j q1 q2 q3 => by rw [g1.2.out i (by omega), g1.2.out j (by omega)]; exact hx i j (by omega) q2 q3
      have g2 := insS_spec (K := K) hx2 (n - 20 - 1) (by omega)
      rw [show 20 + (n - 20 - 1) + 1 = n by omega] at g2
      have g3 := symM_spec (K := K) (f := 40) (x := insS K 20 (n - 20 - 1) (insS K 0 19 x)) (a := 0) (m := 20) (b := n) (by omega) (by omega) (by omega)
        (fun i j q1 q2 q3 => by rw [g2.2.out i (by omega), g2.2.out j (by omega)]; exact g1.1 i j q1 q2 q3) g2.1
        (fun i j q1 q2 q3 q4 _ => by
          rw [g2.2.out i (by omega)]
          obtain ⟨i', i1, i2, i3⟩ := g1.2.bwd i q1 q2
          obtain ⟨j', j1, j2, j3⟩ := g2.2.bwd j q3 q4
          rw [i3, j3, g1.2.out j' (by omega)]
          exact hx i' j' i1 (by omega) j2)
      exact ⟨g3.1, ((g1.2.wide (Nat.le_refl _) (by omega)).trans (g2.2.wide (by omega) (Nat.le_refl _))).trans g3.2⟩
/-! one swap after another -/
def swr (x : Nat → Int) (a b n k : Nat) : Int := if a ≤ k ∧ k < a + n then x (b + (k - a)) else if b ≤ k ∧ k < b + n then x (a + (k - b)) else x k
theorem swr_zero {x : Nat → Int} {a b : Nat} : swr x a b 0 = x := by
  funext k; unfold swr; rw [if_neg (by omega), if_neg (by omega)]
theorem swr_succ {x : Nat → Int} {a b t n : Nat} (h : a + n ≤ b) (ht : t < n) : swp (swr x a b t) (a + t) (b + t) = swr x a b (t + 1) := by
  funext k
  unfold swp
  by_cases e1 : k = a + t
  · rw [if_pos e1]
    unfold swr
    rw [if_neg (by omega), if_neg (by omega), if_pos (by omega)]
    congr 1; omega
  · rw [if_neg e1]
    by_cases e2 : k = b + t
    · rw [if_pos e2]
      unfold swr
      rw [if_neg (by omega), if_neg (by omega), if_neg (by omega), if_pos (by omega)]
      congr 1; omega
    · rw [if_neg e2]
      unfold swr
      by_cases e3 : a ≤ k ∧ k < a + t
      · rw [if_pos e3, if_pos (by omega)]
      · rw [if_neg e3, if_neg (show ¬ (a ≤ k ∧ k < a + (t + 1)) by omega)]
        by_cases e4 : b ≤ k ∧ k < b + t
        · rw [if_pos e4, if_pos (by omega)]
        · rw [if_neg e4, if_neg (by omega)]
theorem rot_gt {x : Nat → Int} {m i j : Nat} (hi : i ≤ m) (h : j < i) : rot x (m - i) m (m + j) = rot (swr x (m - i) m j) (m - i + j) m (m + j) := by
  funext k
  unfold rot swr
  repeat' split
  all_goals first | omega | rfl | (congr 1; omega)
theorem rot_lt {x : Nat → Int} {m i j : Nat} (hi : i ≤ m) (h : i < j) : rot x (m - i) m (m + j) = rot (swr x (m - i) (m + j - i) i) (m - i) m (m + j - i) := by
  funext k
  unfold rot swr
  repeat' split
  all_goals first | omega | rfl | (congr 1; omega)
theorem rot_eq {x : Nat → Int} {m i : Nat} (hi : i ≤ m) : rot x (m - i) m (m + i) = swr x (m - i) m i := by
  funext k
  unfold rot swr
  repeat' split
  all_goals first | omega | rfl | (congr 1; omega)
theorem mvU_zero {x : Nat → Int} {a : Nat} : mvU x a (a + 1) = x := by
  funext k; unfold mvU
  rw [if_neg (by omega)]
  split
  · congr 1; omega
  · rfl
theorem mvU_succ {x : Nat → Int} {a k : Nat} (h : a ≤ k) : swp (mvU x a (k + 1)) k (k + 1) = mvU x a (k + 2) := by
  funext q
  unfold swp mvU
  repeat' split
  all_goals first | omega | rfl | (congr 1; omega)
theorem mvD_zero {x : Nat → Int} {m : Nat} : mvD x m m = x := by
  funext k; unfold mvD
  repeat' split
  all_goals first | omega | rfl | (congr 1; omega)
theorem mvD_succ {x : Nat → Int} {m k : Nat} (h : k < m) : swp (mvD x m (k + 1)) (k + 1) k = mvD x m k := by
  funext q
  unfold swp mvD
  repeat' split
  all_goals first | omega | rfl | (congr 1; omega)
/-- what is sorted and has the same numbers is the same -/
theorem srt_unique {K : Int → Int} {x y : Nat → Int} {n : Nat} (hx : Srt K x 0 n) (hy : Srt K y 0 n) (h1 : ∀ i, i < n → ∃ j, j < n ∧ x i = y j) (h2 : ∀ i, i < n → ∃ j, j < n ∧ y i = x j) : ∀ i, i < n → x i = y i := by
  intro i
  induction i using Nat.strongRecOn with
  | ind i ih =>
    intro hi
    obtain ⟨j, j1, j2⟩ := h1 i hi
    obtain ⟨k, k1, k2⟩ := h2 i hi
    rcases Nat.lt_trichotomy j i with h | h | h
    · have := ih j h j1
      rw [← this] at j2
      have := hx j i (by omega) h hi
      rw [j2] at this
      exact (lt.irr this).elim
    · rw [j2, h]
    · rcases Nat.lt_trichotomy k i with g | g | g
      · have := ih k g k1
        rw [this] at k2
        have := hy k i (by omega) g hi
        rw [k2] at this
        exact (lt.irr this).elim
      · rw [k2, g]
      · have g1 := hy i j (by omega) h j1
        have g2 := hx i k (by omega) g k1
        rw [← j2] at g1
        rw [← k2] at g2
        exact (lt.asymm g1 g2).elim
end Go.EV.Srt

set_option linter.unusedVariables false
set_option linter.unusedSimpArgs false
set_option maxHeartbeats 1000000
namespace Go.Gar
open Go Go.EV Go.EV.Srt
noncomputable section
/-! the library's stable sort, of numbers by a row of numbers -/
def rI (x : Nat → Int) (k : Nat) : List AV := [i (x k)]
def bsS (M : Nat) (x : Nat → Int) (n : Nat) (st : Nat → Int) : List ABlk := [.els 1 M (rI x), .row 1 [.nilsl] (.node (some (.es 10 0 n (some n) 1)) .nil .nil), .els 1 n (rI st)]
def cm : AV := .fn (.func 44) [] [.ptr 9 0]
def dt (N : Nat) : AV := .es 8 0 N none 1
theorem freeI (N : Nat) (x : Nat → Int) : FreeE 1 N (rI x) := FreeE.of (by omega) fun _ _ => FreeL.of rfl
theorem updE_i {x : Nat → Int} {p : Nat} {v : Int} : updE (rI x) p [i v] = rI fun k => bif Nat.beq k p then v else x k := by
  funext k
  unfold updE rI
  show _ = [i (bif Nat.beq k p then v else x k)]
  cases Nat.beq k p <;> rfl
theorem swap_i {x : Nat → Int} {p q : Nat} : updE (updE (rI x) p [i (x q)]) q [i (x p)] = rI (swp x p q) := by
  rw [updE_i, updE_i]
  funext k
  unfold rI swp
  congr 2
  show (bif Nat.beq k q then x p else bif Nat.beq k p then x q else x k) = _
  by_cases e1 : k = q
  · subst e1
    rw [Nat.beq_refl]
    by_cases e2 : k = p
    · subst e2; simp
    · simp [e2]
  · rw [show Nat.beq k q = false from by cases h : Nat.beq k q with | false => rfl | true => exact absurd (Tr.beq_true.mp h) e1]
    by_cases e2 : k = p
    · subst e2; simp
    · rw [show Nat.beq k p = false from by cases h : Nat.beq k p with | false => rfl | true => exact absurd (Tr.beq_true.mp h) e2]
      simp [e1, e2]
theorem MutCall.pre {P : Program} {g : FuncId} {a : List AV} {bs bs1 bs' : List ABlk} {v : AV} (hb : BsEq bs bs1) (M : MutCall P g a bs1 v bs') : MutCall P g a bs v bs' := by
  have hx := hb.next
  refine ⟨by rw [hb.len]; exact M.len, ⟨?_, fun N own ρ w cargs H hc O hN => ?_⟩, M.free, M.ids⟩
  · have := M.ok.1
    show (blksL bs).next ≤ (blksL bs').next
    rw [← hx]; exact this
  · have := M.ok.2 N own ρ w cargs (hrel_els hb H) hc O hN
    rw [hx] at this
    exact this
theorem bs_pre {M n : Nat} {X Y : Nat → List AV} (hX : IsE M X eI dI) (hY : IsE n Y eI dI) : BsEq [.els 1 M X, .row 1 [.nilsl] (.node (some (.es 10 0 n (some n) 1)) .nil .nil), .els 1 n Y] (bsS M (fun k => dI (X k)) n (fun k => dI (Y k))) :=
  .els (by omega) hX (.same _ (.els (by omega) hY .nil))
/-- what a sort's helper does -/
def sortF (cond : Nat → Nat → (Nat → Int) → Nat → (Nat → Int) → List Int → Prop) (res : (Nat → Int) → (Nat → Int) → List Int → Nat → Int) (ar : List AV → Option (Nat × List Int)) : List AV → List ABlk → Option (T (AV × List ABlk))
  | a, [.els 1 M X, .row 1 [.nilsl] (.node (some (.es 10 0 n (some n') 1)) .nil .nil), .els 1 n'' Y] => match ar a with
    | some (N, l) => some (.ck (n' = n ∧ n'' = n ∧ IsE M X eI dI ∧ IsE n Y eI dI ∧ cond N M (fun k => dI (X k)) n (fun k => dI (Y k)) l) (.leaf (.tup [], bsS M (res (fun k => dI (X k)) (fun k => dI (Y k)) l) n (fun k => dI (Y k)))))
    | none => none
  | _, _ => none
theorem sort_spec {g : FuncId} {cond : Nat → Nat → (Nat → Int) → Nat → (Nat → Int) → List Int → Prop} {res : (Nat → Int) → (Nat → Int) → List Int → Nat → Int} {ar : List AV → Option (Nat × List Int)}
    (h : ∀ a N l, ar a = some (N, l) → ∀ M x n st, cond N M x n st l → MutCall Pr g a (bsS M x n st) (.tup []) (bsS M (res x st l) n st)) : MutSpec Pr g (sortF cond res ar) := by
  intro a bs t e
  unfold sortF at e
  split at e
  · rename_i M X n n' n'' Y
    split at e
    · rename_i N l har
      simp only [Option.some.injEq] at e; subst e
      rintro v bs' ⟨⟨rfl, rfl, hX, hY, hc⟩, hs⟩
      have hs : (AV.tup [], _) = (v, bs') := hs
      cases hs
      exact MutCall.pre (bs_pre hX hY) (h _ _ _ har _ _ _ _ hc)
    · cases e
  · cases e

/-! swapping ranges -/
def ar3 : List AV → Option (Nat × List Int)
  | [.es 8 0 N none 1, .int .i64 a, .int .i64 b, .int .i64 m, .fn (.func 44) [] [.ptr 9 0]] => some (N, [a, b, m])
  | _ => none
theorem ar3_eq {l : List AV} {N : Nat} {r : List Int} (h : ar3 l = some (N, r)) : ∃ a b m, l = [dt N, i a, i b, i m, cm] ∧ r = [a, b, m] := by
  unfold ar3 at h
  split at h
  · rename_i N' a b m
    simp only [Option.some.injEq, Prod.mk.injEq] at h
    obtain ⟨rfl, rfl⟩ := h
    exact ⟨a, b, m, rfl, rfl⟩
  · cases h
def y316 : Hy := hyp 3 [(316, [13])] [(316, [(1, [0, 1, 2, 3, 10])])] [] []
section
variable (N M n : Nat) (a b m : Nat) (x st : Nat → Int)
def S316 (j : Int) : AM := hd 316 38 [(0, dt N), (1, i a), (2, i b), (3, i m), (10, i j)] (tdo Pr 316 0) (bsS M x n st)
theorem e316 : symM Pr noU y316 60 (sttB Pr 316 [dt N, i a, i b, i m, cm] (bsS M x n st)) = .ck (FreeE 1 M (rI x) ∧ FreeE 1 n (rI st) ∧ True) (.leaf (.to (S316 N M n a b m x st 0))) := by kernel_rfl
theorem t316 (j : Nat) : symM Pr noU y316 150 (S316 N M n a b m x st j) =
  (.br (decide ((j : Int) < (m : Int)))
   (.cki (0 ≤ W ((b : Int) + (j : Int)) ∧ W ((b : Int) + (j : Int)) < (N : Int))
   (.cki (0 ≤ W ((a : Int) + (j : Int)) ∧ W ((a : Int) + (j : Int)) < (N : Int))
   (.cki (0 ≤ W ((a : Int) + (j : Int)) ∧ W ((a : Int) + (j : Int)) < (N : Int))
   (.cki (0 ≤ W ((b : Int) + (j : Int)) ∧ W ((b : Int) + (j : Int)) < (N : Int))
   (.ck (FreeE 1 M (updE (updE (rI x) (W ((a : Int) + (j : Int))).toNat [i (x (W ((b : Int) + (j : Int))).toNat)]) (W ((b : Int) + (j : Int))).toNat [i (x (W ((a : Int) + (j : Int))).toNat)]) ∧ FreeE 1 n (rI st) ∧ True)
   (.leaf (.to (hd 316 38 [(0, dt N), (1, i a), (2, i b), (3, i m), (10, i (W ((j : Int) + 1)))] (tdo Pr 316 0) [.els 1 M (updE (updE (rI x) (W ((a : Int) + (j : Int))).toNat [i (x (W ((b : Int) + (j : Int))).toNat)]) (W ((b : Int) + (j : Int))).toNat [i (x (W ((a : Int) + (j : Int))).toNat)]), .row 1 [.nilsl] (.node (some (.es 10 0 n (some n) 1)) .nil .nil), .els 1 n (rI st)]))))))))
   (.ck (FreeE 1 M (rI x) ∧ FreeE 1 n (rI st) ∧ True)
   (.leaf (.fin (.tup []) (bsS M x n st))))) := by kernel_rfl
end
theorem W_add {a b : Nat} (h : a + b ≤ 10000000) : W ((a : Int) + (b : Int)) = ((a + b : Nat) : Int) := by rw [W_in _ (by omega)]; omega
section
variable {N M n : Nat} {a b m : Nat} {x st : Nat → Int}
theorem l316 (hN : N ≤ 1000000) (hab : a + m ≤ b) (hb : b + m ≤ N) : ∀ d j, j + d = m → EndsM Pr 3 (S316 N M n a b m (swr x a b j) st (j : Int)) fun v bs => v = .tup [] ∧ bs = bsS M (swr x a b m) n st
  | 0, j, hd => by
    obtain rfl : j = m := by omega
    exact endsM_of G0 (t316 N M n a b j (swr x a b j) st j) ⟨fun h => by simp at h, fun _ => ⟨⟨freeI _ _, freeI _ _, trivial⟩, rfl, rfl⟩⟩
  | d + 1, j, hd => by
    have h1 := W_add (a := a) (b := j) (by omega)
    have h2 := W_add (a := b) (b := j) (by omega)
    refine endsM_of G0 (t316 N M n a b m (swr x a b j) st j) ?_
    rw [h1, h2, Int.toNat_natCast, Int.toNat_natCast, swap_i, swr_succ hab (by omega), W_succ (n := m) (by omega) (by omega)]
    exact ⟨fun h => ⟨by omega, by omega, by omega, by omega, ⟨freeI _ _, freeI _ _, trivial⟩, l316 hN hab hb d (j + 1) (by omega)⟩, fun h => by simp at h; omega⟩
theorem c316' (hN : N ≤ 1000000) (hab : a + m ≤ b) (hb : b + m ≤ N) : MutCall Pr 316 [dt N, i a, i b, i m, cm] (bsS M x n st) (.tup []) (bsS M (swr x a b m) n st) := by
  refine mut_of_eq (p := 3) rfl (by kernel_rfl) (endsM_of G0 (e316 N M n a b m x st) ⟨⟨freeI _ _, freeI _ _, trivial⟩, ?_⟩)
  have := l316 (M := M) (n := n) (x := x) (st := st) hN hab hb m 0 (by omega)
  rw [swr_zero] at this
  exact this
end
def cond316 (N M : Nat) (x : Nat → Int) (n : Nat) (st : Nat → Int) : List Int → Prop
  | [a, b, m] => N ≤ 1000000 ∧ 0 ≤ a ∧ 0 ≤ m ∧ a + m ≤ b ∧ b + m ≤ N
  | _ => False
def res316 (x st : Nat → Int) : List Int → Nat → Int
  | [a, b, m] => swr x a.toNat b.toNat m.toNat
  | _ => x
theorem c316 : MutSpec Pr 316 (sortF cond316 res316 ar3) := sort_spec fun l N r har M x n st hc => by
  obtain ⟨a, b, m, rfl, rfl⟩ := ar3_eq har
  obtain ⟨h1, h2, h3, h4, h5⟩ := hc
  obtain ⟨a, rfl⟩ := Int.eq_ofNat_of_zero_le h2
  obtain ⟨m, rfl⟩ := Int.eq_ofNat_of_zero_le h3
  obtain ⟨b, rfl⟩ := Int.eq_ofNat_of_zero_le (show 0 ≤ b by omega)
  exact c316' h1 (by omega) (by omega)
def U267 : USum := addM noU 316 (sortF cond316 res316 ar3)
theorem G267 : GoodU Pr U267 := G0.addM c316
/-! rotating -/
def y267 : Hy := hyp 3 [(267, [20, 23])] [(267, [(2, [0, 2, 4, 10, 11])])] [] []
section
variable (N M n : Nat) (a b m p q : Nat) (x st : Nat → Int)
def S267 (p q : Int) : AM := hd 267 58 [(0, dt N), (2, i m), (4, cm), (10, i p), (11, i q)] (tdo Pr 267 0) (bsS M x n st)
theorem e267 : symM Pr U267 y267 70 (sttB Pr 267 [dt N, i a, i m, i b, cm] (bsS M x n st)) = .ck (FreeE 1 M (rI x) ∧ FreeE 1 n (rI st) ∧ True) (.leaf (.to (S267 N M n m x st (W ((m : Int) - (a : Int))) (W ((b : Int) - (m : Int)))))) := by kernel_rfl
theorem t267 : symM Pr U267 y267 130 (S267 N M n m x st p q) =
  (.br ((p : Int) != (q : Int))
   (.br (decide ((p : Int) > (q : Int)))
    (.ck (FreeE 1 M (rI x) ∧ FreeE 1 n (rI st) ∧ True)
    (.ck (n = n ∧ n = n ∧ IsE M (rI x) eI dI ∧ IsE n (rI st) eI dI ∧ cond316 N M x n st [W ((m : Int) - (p : Int)), (m : Int), (q : Int)])
    (.ck (FreeE 1 M (rI (swr x (W ((m : Int) - (p : Int))).toNat m q)) ∧ FreeE 1 n (rI st) ∧ True)
    (.leaf (.to (S267 N M n m (swr x (W ((m : Int) - (p : Int))).toNat m q) st (W ((p : Int) - (q : Int))) q))))))
    (.ck (FreeE 1 M (rI x) ∧ FreeE 1 n (rI st) ∧ True)
    (.ck (n = n ∧ n = n ∧ IsE M (rI x) eI dI ∧ IsE n (rI st) eI dI ∧ cond316 N M x n st [W ((m : Int) - (p : Int)), W (W ((m : Int) + (q : Int)) - (p : Int)), (p : Int)])
    (.ck (FreeE 1 M (rI (swr x (W ((m : Int) - (p : Int))).toNat (W (W ((m : Int) + (q : Int)) - (p : Int))).toNat p)) ∧ FreeE 1 n (rI st) ∧ True)
    (.leaf (.to (S267 N M n m (swr x (W ((m : Int) - (p : Int))).toNat (W (W ((m : Int) + (q : Int)) - (p : Int))).toNat p) st p (W ((q : Int) - (p : Int))))))))))
   (.ck (FreeE 1 M (rI x) ∧ FreeE 1 n (rI st) ∧ True)
   (.ck (n = n ∧ n = n ∧ IsE M (rI x) eI dI ∧ IsE n (rI st) eI dI ∧ cond316 N M x n st [W ((m : Int) - (p : Int)), (m : Int), (p : Int)])
   (.ck (FreeE 1 M (rI (swr x (W ((m : Int) - (p : Int))).toNat m p)) ∧ FreeE 1 n (rI st) ∧ True)
   (.leaf (.fin (.tup []) (bsS M (swr x (W ((m : Int) - (p : Int))).toNat m p) n st))))))) := by kernel_rfl
end
theorem W_sub {a b : Nat} (h : b ≤ a) (ha : a ≤ 10000000) : W ((a : Int) - (b : Int)) = ((a - b : Nat) : Int) := by rw [W_in _ (by omega)]; omega
theorem isI (M : Nat) (x : Nat → Int) : IsE M (rI x) eI dI := fun _ _ => rfl
section
variable {N M n : Nat} {a b m : Nat} {x st : Nat → Int}
theorem l267 (hN : N ≤ 1000000) : ∀ d p q (x y : Nat → Int), p + q ≤ d → 0 < p → 0 < q → p ≤ m → m + q ≤ N → y = rot x (m - p) m (m + q) → EndsM Pr 3 (S267 N M n m x st (p : Int) (q : Int)) fun v bs => v = .tup [] ∧ bs = bsS M y n st
  | 0, p, q, x, y, hd, hp, hq, _, _, _ => by omega
  | d + 1, p, q, x, y, hd, hp, hq, hpm, hmq, hy => by
    have h1 := W_sub (a := m) (b := p) hpm (by omega)
    have h2 := W_add (a := m) (b := q) (by omega)
    refine endsM_of G267 (t267 N M n m p q x st) ?_
    rw [h1, h2, Int.toNat_natCast, W_sub (a := m + q) (b := p) (by omega) (by omega), Int.toNat_natCast]
    refine ⟨fun _ => ⟨fun hgt => ?_, fun hgt => ?_⟩, fun heq => ?_⟩
    · have hgt : q < p := by simp at hgt; omega
      refine ⟨⟨freeI _ _, freeI _ _, trivial⟩, ⟨rfl, rfl, isI _ _, isI _ _, hN, by omega, by omega, by omega, by omega⟩, ⟨freeI _ _, freeI _ _, trivial⟩, ?_⟩
      rw [W_sub (a := p) (b := q) (by omega) (by omega)]
      refine l267 hN d (p - q) q _ y (by omega) (by omega) hq (by omega) hmq ?_
      rw [hy, rot_gt hpm hgt]
      congr 1; omega
    · rename_i hne
      have hlt : p < q := by simp at hgt hne; omega
      refine ⟨⟨freeI _ _, freeI _ _, trivial⟩, ⟨rfl, rfl, isI _ _, isI _ _, hN, by omega, by omega, by omega, by omega⟩, ⟨freeI _ _, freeI _ _, trivial⟩, ?_⟩
      rw [W_sub (a := q) (b := p) (by omega) (by omega)]
      refine l267 hN d p (q - p) _ y (by omega) hp (by omega) hpm (by omega) ?_
      rw [hy, rot_lt hpm hlt]
      congr 1; omega
    · have heq : p = q := by simp at heq; omega
      subst heq
      refine ⟨⟨freeI _ _, freeI _ _, trivial⟩, ⟨rfl, rfl, isI _ _, isI _ _, hN, by omega, by omega, by omega, by omega⟩, ⟨freeI _ _, freeI _ _, trivial⟩, rfl, ?_⟩
      rw [hy, rot_eq hpm]
theorem c267' (hN : N ≤ 1000000) (ham : a < m) (hmb : m < b) (hb : b ≤ N) : MutCall Pr 267 [dt N, i a, i m, i b, cm] (bsS M x n st) (.tup []) (bsS M (rot x a m b) n st) := by
  refine mut_of_eq (p := 3) rfl (by kernel_rfl) (endsM_of G267 (e267 N M n a b m x st) ⟨⟨freeI _ _, freeI _ _, trivial⟩, ?_⟩)
  rw [W_sub (a := m) (b := a) (by omega) (by omega), W_sub (a := b) (b := m) (by omega) (by omega)]
  refine l267 hN (m - a + (b - m)) (m - a) (b - m) x _ (Nat.le_refl _) (by omega) (by omega) (by omega) (by omega) ?_
  congr 1 <;> omega
end
def cond267 (N M : Nat) (x : Nat → Int) (n : Nat) (st : Nat → Int) : List Int → Prop
  | [a, m, b] => N ≤ 1000000 ∧ 0 ≤ a ∧ a < m ∧ m < b ∧ b ≤ N
  | _ => False
def res267 (x st : Nat → Int) : List Int → Nat → Int
  | [a, m, b] => rot x a.toNat m.toNat b.toNat
  | _ => x
theorem c267 : MutSpec Pr 267 (sortF cond267 res267 ar3) := sort_spec fun l N r har M x n st hc => by
  obtain ⟨a, m, b, rfl, rfl⟩ := ar3_eq har
  obtain ⟨h1, h2, h3, h4, h5⟩ := hc
  obtain ⟨a, rfl⟩ := Int.eq_ofNat_of_zero_le h2
  obtain ⟨m, rfl⟩ := Int.eq_ofNat_of_zero_le (show 0 ≤ m by omega)
  obtain ⟨b, rfl⟩ := Int.eq_ofNat_of_zero_le (show 0 ≤ b by omega)
  exact c267' h1 (by omega) (by omega) (by omega)

/-! comparing -/
def cmpZ (a b : Int) : Int := bif decide (a < b) then -1 else bif decide (a > b) then 1 else 0
theorem cmpZ_neg {a b : Int} : cmpZ a b < 0 ↔ a < b := by
  unfold cmpZ
  by_cases h : a < b
  · simp [h]
  · simp only [h, decide_false, cond_false, iff_false]
    cases decide (a > b) <;> simp
def F45 : List AV → Option (T AV)
  | [.int .i64 a, .int .i64 b] => some (.leaf (i (cmpZ a b)))
  | _ => none
def y45 : Hy := hy [(45, [5, 6, 16, 19])] [] [] []
theorem t45 (a b : Int) : symF Pr noU y45 200 (stt Pr 45 [i a, i b]) =
  (.br (a != a)
   (.br (b != b) (.leaf (.fin (i 0))) (.leaf (.fin (i (-1)))))
   (.br (b != b) (.leaf (.fin (i 1))) (.br (decide (a < b)) (.leaf (.fin (i (-1)))) (.br (decide (a > b)) (.leaf (.fin (i 1))) (.leaf (.fin (i 0))))))) := by kernel_rfl
theorem c45 : FnSpec Pr 45 F45 := by
  intro a t h
  unfold F45 at h
  split at h
  · rename_i a b
    simp only [Option.some.injEq] at h; subst h
    refine fnSpec_br (t := .leaf _) (fn_of_fin G0 (by kernel_rfl) (t45 a b) ⟨fun h => by simp at h, fun _ => ⟨fun h => by simp at h, fun _ => ⟨fun h => ?_, fun h => ⟨fun h1 => ?_, fun h1 => ?_⟩⟩⟩⟩)
    · show i (-1) = i (cmpZ a b)
      unfold cmpZ; rw [h]; rfl
    · show i 1 = i (cmpZ a b)
      unfold cmpZ; rw [h, h1]; rfl
    · show i 0 = i (cmpZ a b)
      unfold cmpZ; rw [h, h1]; rfl
  · cases h
def U195 : USum := addV noU 45 F45
theorem G195 : GoodU Pr U195 := G0.addV c45
end
end Go.Gar

set_option linter.unusedVariables false
set_option linter.unusedSimpArgs false
set_option maxHeartbeats 1000000
namespace Go.Gar
open Go Go.EV Go.EV.Srt
noncomputable section
/-! insertion -/
def Rng (N : Nat) (x : Nat → Int) (n : Nat) : Prop := ∀ k, k < N → 0 ≤ x k ∧ x k < (n : Int)
def KK (st : Nat → Int) (v : Int) : Int := st v.toNat
theorem Rng.perm {N n a b : Nat} {x y : Nat → Int} (h : Rng N x n) (p : PermOn a b x y) (hb : b ≤ N) : Rng N y n := by
  intro k hk
  by_cases hi : a ≤ k ∧ k < b
  · obtain ⟨j, j1, j2, j3⟩ := p.bwd k hi.1 hi.2
    rw [j3]; exact h j (by omega)
  · rw [p.out k (by omega)]; exact h k hk
def y195 : Hy := hyp 3 [(195, [14, 20, 33])] [(195, [(1, [0, 1, 2, 3, 8]), (5, [0, 1, 2, 3, 8, 9])])] [] []
section
variable (N M n : Nat) (a b j p : Nat) (x st : Nat → Int)
def S195a (j : Int) : AM := hd 195 53 [(0, dt N), (1, i a), (2, i b), (3, cm), (8, i j)] (tdo Pr 195 0) (bsS M x n st)
def S195b (p : Int) : AM := hd 195 53 [(0, dt N), (1, i a), (2, i b), (3, cm), (8, i j), (9, i p)] (tdo Pr 195 1) (bsS M x n st)
theorem e195 : symM Pr U195 y195 60 (sttB Pr 195 [dt N, i a, i b, cm] (bsS M x n st)) = .ck (FreeE 1 M (rI x) ∧ FreeE 1 n (rI st) ∧ True) (.leaf (.to (S195a N M n a b x st (W ((a : Int) + 1))))) := by kernel_rfl
theorem t195a : symM Pr U195 y195 80 (S195a N M n a b x st j) =
  (.br (decide ((j : Int) < (b : Int)))
   (.ck (FreeE 1 M (rI x) ∧ FreeE 1 n (rI st) ∧ True)
   (.leaf (.to (S195b N M n a b j x st j))))
   (.ck (FreeE 1 M (rI x) ∧ FreeE 1 n (rI st) ∧ True)
   (.leaf (.fin (.tup []) (bsS M x n st))))) := by kernel_rfl
def A195 : T Lw :=
  (.ck (FreeE 1 M (rI x) ∧ FreeE 1 n (rI st) ∧ True)
  (.leaf (.to (S195a N M n a b x st (W ((j : Int) + 1))))))
theorem t195b : symM Pr U195 y195 230 (S195b N M n a b j x st p) =
  (.br (decide ((p : Int) > (a : Int)))
   (.cki (0 ≤ (p : Int) ∧ (p : Int) < (N : Int))
   (.cki (0 ≤ W ((p : Int) - 1) ∧ W ((p : Int) - 1) < (N : Int))
   (.cki (0 ≤ x p ∧ x p < (n : Int))
   (.cki (0 ≤ x (W ((p : Int) - 1)).toNat ∧ x (W ((p : Int) - 1)).toNat < (n : Int))
   (.br (decide (cmpZ (st (x p).toNat) (st (x (W ((p : Int) - 1)).toNat).toNat) < 0))
    (.cki (0 ≤ W ((p : Int) - 1) ∧ W ((p : Int) - 1) < (N : Int))
    (.cki (0 ≤ (p : Int) ∧ (p : Int) < (N : Int))
    (.cki (0 ≤ (p : Int) ∧ (p : Int) < (N : Int))
    (.cki (0 ≤ W ((p : Int) - 1) ∧ W ((p : Int) - 1) < (N : Int))
    (.ck (FreeE 1 M (updE (updE (rI x) p [i (x (W ((p : Int) - 1)).toNat)]) (W ((p : Int) - 1)).toNat [i (x p)]) ∧ FreeE 1 n (rI st) ∧ True)
    (.leaf (.to (hd 195 53 [(0, dt N), (1, i a), (2, i b), (3, cm), (8, i j), (9, i (W ((p : Int) - 1)))] (tdo Pr 195 1) [.els 1 M (updE (updE (rI x) p [i (x (W ((p : Int) - 1)).toNat)]) (W ((p : Int) - 1)).toNat [i (x p)]), .row 1 [.nilsl] (.node (some (.es 10 0 n (some n) 1)) .nil .nil), .els 1 n (rI st)]))))))))
    (A195 N M n a b j x st))))))
   (A195 N M n a b j x st)) := by kernel_rfl
end
section
variable {N M n : Nat} {a b : Nat} {st : Nat → Int}
theorem l195b {Q : AV → List ABlk → Prop} {j : Nat} (hN : N ≤ 1000000) (hj : j < N) : ∀ p (x : Nat → Int), a ≤ p → p < N → Rng N x n →
    EndsM Pr 3 (S195a N M n a b (down (KK st) a p x) st ((j + 1 : Nat) : Int)) Q → EndsM Pr 3 (S195b N M n a b j x st (p : Int)) Q
  | 0, x, hp, hpN, hr, hQ => by
    refine endsM_of G195 (t195b N M n a b j 0 x st) ⟨fun h => by simp at h; omega, fun _ => ⟨⟨freeI _ _, freeI _ _, trivial⟩, ?_⟩⟩
    rw [W_succ hj hN]; exact hQ
  | p + 1, x, hp, hpN, hr, hQ => by
    have hW : W (((p + 1 : Nat) : Int) - 1) = (p : Int) := W_pred (n := N) (by omega) hN
    have h1 := hr (p + 1) hpN
    have h2 := hr p (by omega)
    have hA : down (KK st) a (p + 1) x = x → (A195 N M n a b j x st).Wp (EndLw Pr 3 Q) := fun hd => by
      refine ⟨⟨freeI _ _, freeI _ _, trivial⟩, ?_⟩
      rw [W_succ hj hN]
      rw [hd] at hQ; exact hQ
    refine endsM_of G195 (t195b N M n a b j (p + 1) x st) ?_
    rw [hW, Int.toNat_natCast, swap_i]
    refine ⟨fun h => ⟨by omega, by omega, h1, h2, fun h3 => ?_, fun h3 => hA ?_⟩, fun h => hA ?_⟩
    · refine ⟨by omega, by omega, by omega, by omega, ⟨freeI _ _, freeI _ _, trivial⟩, ?_⟩
      refine l195b hN hj p _ (by simp at h; omega) (by omega) (hr.perm (swp_perm (a := 0) (b := N) (by omega) hpN (by omega) (by omega)) (Nat.le_refl _)) ?_
      rw [show down (KK st) a (p + 1) x = down (KK st) a p (swp x (p + 1) p) by
        show (if _ then _ else _) = _
        rw [if_pos]
        exact ⟨by simp at h; omega, cmpZ_neg.mp (of_decide_eq_true h3)⟩] at hQ
      exact hQ
    · show (if _ then _ else _) = _
      rw [if_neg]
      intro hh
      have := cmpZ_neg.mpr hh.2
      simp only [decide_eq_false_iff_not] at h3
      exact h3 this
    · show (if _ then _ else _) = _
      rw [if_neg]
      intro hh
      simp at h; omega
theorem insS_rng {x : Nat → Int} (hr : Rng N x n) : ∀ d, a + d < N → Rng N (insS (KK st) a d x) n
  | 0, _ => hr
  | d + 1, h => (insS_rng hr d (by omega)).perm (down_perm (a := a) (b := N) (by omega) (by omega)) (Nat.le_refl _)
theorem l195a {x : Nat → Int} (hN : N ≤ 1000000) (hb : b ≤ N) (hr : Rng N x n) : ∀ e d, a + d + 1 + e = b → EndsM Pr 3 (S195a N M n a b (insS (KK st) a d x) st ((a + d + 1 : Nat) : Int)) fun v bs => v = .tup [] ∧ bs = bsS M (insS (KK st) a (b - a - 1) x) n st
  | 0, d, hd => by
    refine endsM_of G195 (t195a N M n a b (a + d + 1) _ st) ⟨fun h => by simp at h; omega, fun _ => ⟨⟨freeI _ _, freeI _ _, trivial⟩, rfl, ?_⟩⟩
    rw [show b - a - 1 = d by omega]
  | e + 1, d, hd => by
    refine endsM_of G195 (t195a N M n a b (a + d + 1) _ st) ⟨fun h => ⟨⟨freeI _ _, freeI _ _, trivial⟩, ?_⟩, fun h => by simp at h; omega⟩
    refine l195b hN (by omega) (a + d + 1) _ (by omega) (by omega) (insS_rng hr d (by omega)) ?_
    exact l195a hN hb hr e (d + 1) (by omega)
theorem c195' {x : Nat → Int} (hN : N ≤ 1000000) (hab : a ≤ b) (hb : b ≤ N) (hr : Rng N x n) : MutCall Pr 195 [dt N, i a, i b, cm] (bsS M x n st) (.tup []) (bsS M (insS (KK st) a (b - a - 1) x) n st) := by
  refine mut_of_eq (p := 3) rfl (by kernel_rfl) (endsM_of G195 (e195 N M n a b x st) ⟨⟨freeI _ _, freeI _ _, trivial⟩, ?_⟩)
  rw [show W ((a : Int) + 1) = ((a + 1 : Nat) : Int) by rw [W_in _ (by omega)]; omega]
  by_cases h : a < b
  · exact l195a (a := a) (b := b) (st := st) hN hb hr (b - (a + 1)) 0 (by omega)
  · refine endsM_of G195 (t195a N M n a b (a + 1) x st) ⟨fun h => by simp at h; omega, fun _ => ⟨⟨freeI _ _, freeI _ _, trivial⟩, rfl, ?_⟩⟩
    rw [show b - a - 1 = 0 by omega]; rfl
end
def ar2 : List AV → Option (Nat × List Int)
  | [.es 8 0 N none 1, .int .i64 a, .int .i64 b, .fn (.func 44) [] [.ptr 9 0]] => some (N, [a, b])
  | _ => none
theorem ar2_eq {l : List AV} {N : Nat} {r : List Int} (h : ar2 l = some (N, r)) : ∃ a b, l = [dt N, i a, i b, cm] ∧ r = [a, b] := by
  unfold ar2 at h
  split at h
  · rename_i N' a b
    simp only [Option.some.injEq, Prod.mk.injEq] at h
    obtain ⟨rfl, rfl⟩ := h
    exact ⟨a, b, rfl, rfl⟩
  · cases h
def cond195 (N M : Nat) (x : Nat → Int) (n : Nat) (st : Nat → Int) : List Int → Prop
  | [a, b] => N ≤ 1000000 ∧ 0 ≤ a ∧ a ≤ b ∧ b ≤ N ∧ Rng N x n
  | _ => False
def res195 (x st : Nat → Int) : List Int → Nat → Int
  | [a, b] => insS (KK st) a.toNat (b.toNat - a.toNat - 1) x
  | _ => x
theorem c195 : MutSpec Pr 195 (sortF cond195 res195 ar2) := sort_spec fun l N r har M x n st hc => by
  obtain ⟨a, b, rfl, rfl⟩ := ar2_eq har
  obtain ⟨h1, h2, h3, h4, h5⟩ := hc
  obtain ⟨a, rfl⟩ := Int.eq_ofNat_of_zero_le h2
  obtain ⟨b, rfl⟩ := Int.eq_ofNat_of_zero_le (show 0 ≤ b by omega)
  exact c195' h1 (by omega) (by omega) h5
end
end Go.Gar

set_option linter.unusedVariables false
set_option linter.unusedSimpArgs false
set_option maxHeartbeats 1000000
namespace Go.Gar
open Go Go.EV Go.EV.Srt
noncomputable section
/-! merging -/
def half (s : Int) : Int := W ((IntKind.u64.wrap s).fdiv (2 ^ min (Int.toNat 1) IntKind.u64.bits))
theorem half_nat {t : Nat} (h : t ≤ 10000000) : half (t : Int) = ((t / 2 : Nat) : Int) := by
  unfold half
  have h1 : IntKind.u64.wrap (t : Int) = (t : Int) := by
    unfold IntKind.wrap
    simp only [IntKind.signed, IntKind.bits]
    simp
    omega
  rw [h1]
  have h2 : (2 : Int) ^ min (Int.toNat 1) IntKind.u64.bits = 2 := by decide
  rw [h2, show Int.fdiv (t : Int) 2 = ((t / 2 : Nat) : Int) by rw [Int.fdiv_eq_ediv_of_nonneg _ (by omega)]; omega]
  exact W_in _ (by omega)
abbrev UQ := USum
def cond196 (f : Nat) (N M : Nat) (x : Nat → Int) (n : Nat) (st : Nat → Int) : List Int → Prop
  | [a, m, b] => N ≤ 1000000 ∧ 0 ≤ a ∧ a < m ∧ m < b ∧ b ≤ N ∧ b - a ≤ f ∧ Rng N x n
  | _ => False
def res196 (f : Nat) (x st : Nat → Int) : List Int → Nat → Int
  | [a, m, b] => symM (KK st) f x a.toNat m.toNat b.toNat
  | _ => x
def U196 (f : Nat) : USum := addM (addM U195 267 (sortF cond267 res267 ar3)) 196 (sortF (cond196 f) (res196 f) ar3)
theorem G196 {f : Nat} (h : MutSpec Pr 196 (sortF (cond196 f) (res196 f) ar3)) : GoodU Pr (U196 f) := (G195.addM c267).addM h
def y196 : Hy := hyp 3 [(196, [28, 80, 140, 33, 50, 58, 85, 103, 110, 151, 171, 180, 184, 194, 198, 208, 212])] [(196, [(3, [0,1,2,4,10,11,13,14,15,17]), (2, [0, 1, 2, 3, 4, 18, 19, 20, 21, 22])])] [] []
section
variable (f : Nat) (N M n : Nat) (a m b : Nat) (x st : Nat → Int)
def fr (x : Nat → Int) : Prop := FreeE 1 M (rI x) ∧ FreeE 1 n (rI st) ∧ True
theorem fr_ok (x : Nat → Int) : fr M n st x := ⟨freeI _ _, freeI _ _, trivial⟩
def finT (x : Nat → Int) : T Lw := .ck (fr M n st x) (.leaf (.fin (.tup []) (bsS M x n st)))
def callT (c : Prop) (x x' : Nat → Int) (k : (Nat → Int) → T Lw) : T Lw := .ck (fr M n st x) (.ck (n = n ∧ n = n ∧ IsE M (rI x) eI dI ∧ IsE n (rI st) eI dI ∧ c) (k x'))
def SA (p q : Int) : AM := hd 196 220 [(0, dt N), (1, i a), (2, i m), (4, cm), (10, i p), (11, i q)] (tdo Pr 196 0) (bsS M x n st)
def SA' (p q k : Int) (X : Nat → List AV) : AM := hd 196 220 [(0, dt N), (1, i a), (2, i m), (4, cm), (10, i p), (11, i q), (13, i k)] (tdo Pr 196 1) [.els 1 M X, .row 1 [.nilsl] (.node (some (.es 10 0 n (some n) 1)) .nil .nil), .els 1 n (rI st)]
def SB (p q : Int) : AM := hd 196 220 [(0, dt N), (1, i a), (2, i m), (4, cm), (14, i p), (15, i q)] (tdo Pr 196 2) (bsS M x n st)
def SB' (p q k : Int) (X : Nat → List AV) : AM := hd 196 220 [(0, dt N), (1, i a), (2, i m), (4, cm), (14, i p), (15, i q), (17, i k)] (tdo Pr 196 3) [.els 1 M X, .row 1 [.nilsl] (.node (some (.es 10 0 n (some n) 1)) .nil .nil), .els 1 n (rI st)]
def SC (mid nn s r p : Int) : AM := hd 196 220 [(0, dt N), (1, i a), (2, i m), (3, i b), (4, cm), (18, i mid), (19, i nn), (20, i s), (21, i r), (22, i p)] (tdo Pr 196 4) (bsS M x n st)
def hab : Int := half (W ((a : Int) + (b : Int)))
theorem e196 : symM Pr (U196 f) y196 170 (sttB Pr 196 [dt N, i a, i m, i b, cm] (bsS M x n st)) =
  (.br (W ((m : Int) - (a : Int)) == 1)
   (.ck (fr M n st x) (.leaf (.to (SA N M n a m x st m b))))
   (.br (W ((b : Int) - (m : Int)) == 1)
    (.ck (fr M n st x) (.leaf (.to (SB N M n a m x st a m))))
    (.cki ((0 : Int) ≤ 1)
    (.br (decide ((m : Int) > hab a b))
     (.ck (fr M n st x) (.leaf (.to (SC N M n a m b x st (hab a b) (W (hab a b + (m : Int))) (W (W (hab a b + (m : Int)) - (b : Int))) (hab a b) (W (W (hab a b + (m : Int)) - 1))))))
     (.ck (fr M n st x) (.leaf (.to (SC N M n a m b x st (hab a b) (W (hab a b + (m : Int))) a m (W (W (hab a b + (m : Int)) - 1)))))))))) := by kernel_rfl
theorem tA (p q : Nat) : symM Pr (U196 f) y196 170 (SA N M n a m x st p q) =
  (.br (decide ((p : Int) < (q : Int)))
   (.cki ((0 : Int) ≤ 1)
   (.cki (0 ≤ half (W ((p : Int) + (q : Int))) ∧ half (W ((p : Int) + (q : Int))) < (N : Int))
   (.cki (0 ≤ (a : Int) ∧ (a : Int) < (N : Int))
   (.cki (0 ≤ x (half (W ((p : Int) + (q : Int)))).toNat ∧ x (half (W ((p : Int) + (q : Int)))).toNat < (n : Int))
   (.cki (0 ≤ x a ∧ x a < (n : Int))
   (.br (decide (cmpZ (st (x (half (W ((p : Int) + (q : Int)))).toNat).toNat) (st (x a).toNat) < 0))
    (.ck (fr M n st x) (.leaf (.to (SA N M n a m x st (W (half (W ((p : Int) + (q : Int))) + 1)) q))))
    (.ck (fr M n st x) (.leaf (.to (SA N M n a m x st p (half (W ((p : Int) + (q : Int)))))))))))))) 
   (.ck (fr M n st x) (.leaf (.to (SA' N M n a m st p q a (rI x)))))) := by kernel_rfl
theorem tA' (p q k : Nat) : symM Pr (U196 f) y196 140 (SA' N M n a m st p q k (rI x)) =
  (.br (decide ((k : Int) < W ((p : Int) - 1)))
   (.cki (0 ≤ W ((k : Int) + 1) ∧ W ((k : Int) + 1) < (N : Int))
   (.cki (0 ≤ (k : Int) ∧ (k : Int) < (N : Int))
   (.cki (0 ≤ (k : Int) ∧ (k : Int) < (N : Int))
   (.cki (0 ≤ W ((k : Int) + 1) ∧ W ((k : Int) + 1) < (N : Int))
   (.ck (FreeE 1 M (updE (updE (rI x) k [i (x (W ((k : Int) + 1)).toNat)]) (W ((k : Int) + 1)).toNat [i (x k)]) ∧ FreeE 1 n (rI st) ∧ True)
   (.leaf (.to (SA' N M n a m st p q (W ((k : Int) + 1)) (updE (updE (rI x) k [i (x (W ((k : Int) + 1)).toNat)]) (W ((k : Int) + 1)).toNat [i (x k)])))))))))
   (finT M n st x)) := by kernel_rfl
theorem tB (p q : Nat) : symM Pr (U196 f) y196 170 (SB N M n a m x st p q) =
  (.br (decide ((p : Int) < (q : Int)))
   (.cki ((0 : Int) ≤ 1)
   (.cki (0 ≤ (m : Int) ∧ (m : Int) < (N : Int))
   (.cki (0 ≤ half (W ((p : Int) + (q : Int))) ∧ half (W ((p : Int) + (q : Int))) < (N : Int))
   (.cki (0 ≤ x m ∧ x m < (n : Int))
   (.cki (0 ≤ x (half (W ((p : Int) + (q : Int)))).toNat ∧ x (half (W ((p : Int) + (q : Int)))).toNat < (n : Int))
   (.br (!decide (cmpZ (st (x m).toNat) (st (x (half (W ((p : Int) + (q : Int)))).toNat).toNat) < 0))
    (.ck (fr M n st x) (.leaf (.to (SB N M n a m x st (W (half (W ((p : Int) + (q : Int))) + 1)) q))))
    (.ck (fr M n st x) (.leaf (.to (SB N M n a m x st p (half (W ((p : Int) + (q : Int)))))))))))))) 
   (.ck (fr M n st x) (.leaf (.to (SB' N M n a m st p q m (rI x)))))) := by kernel_rfl
theorem tB' (p q k : Nat) : symM Pr (U196 f) y196 140 (SB' N M n a m st p q k (rI x)) =
  (.br (decide ((k : Int) > (p : Int)))
   (.cki (0 ≤ W ((k : Int) - 1) ∧ W ((k : Int) - 1) < (N : Int))
   (.cki (0 ≤ (k : Int) ∧ (k : Int) < (N : Int))
   (.cki (0 ≤ (k : Int) ∧ (k : Int) < (N : Int))
   (.cki (0 ≤ W ((k : Int) - 1) ∧ W ((k : Int) - 1) < (N : Int))
   (.ck (FreeE 1 M (updE (updE (rI x) k [i (x (W ((k : Int) - 1)).toNat)]) (W ((k : Int) - 1)).toNat [i (x k)]) ∧ FreeE 1 n (rI st) ∧ True)
   (.leaf (.to (SB' N M n a m st p q (W ((k : Int) - 1)) (updE (updE (rI x) k [i (x (W ((k : Int) - 1)).toNat)]) (W ((k : Int) - 1)).toNat [i (x k)])))))))))
   (finT M n st x)) := by kernel_rfl
def k3 (mid e : Int) (x : Nat → Int) : T Lw := .br (decide (mid < e)) (.br (decide (e < (b : Int))) (callT M n st (cond196 f N M x n st [mid, e, b]) x (res196 f x st [mid, e, b]) (finT M n st)) (finT M n st x)) (finT M n st x)
def k2 (mid s e : Int) (x : Nat → Int) : T Lw := .br (decide ((a : Int) < s)) (.br (decide (s < mid)) (callT M n st (cond196 f N M x n st [a, s, mid]) x (res196 f x st [a, s, mid]) (k3 f N M n b st mid e)) (k3 f N M n b st mid e x)) (k3 f N M n b st mid e x)
def k1 (mid s e : Int) : T Lw := .br (decide (s < (m : Int))) (.br (decide ((m : Int) < e)) (callT M n st (cond267 N M x n st [s, m, e]) x (res267 x st [s, m, e]) (k2 f N M n a b st mid s e)) (k2 f N M n a b st mid s e x)) (k2 f N M n a b st mid s e x)
theorem tC (mid nn s r p : Nat) : symM Pr (U196 f) y196 610 (SC N M n a m b x st mid nn s r p) =
  (.br (decide ((s : Int) < (r : Int)))
   (.cki ((0 : Int) ≤ 1)
   (.cki (0 ≤ W ((p : Int) - half (W ((s : Int) + (r : Int)))) ∧ W ((p : Int) - half (W ((s : Int) + (r : Int)))) < (N : Int))
   (.cki (0 ≤ half (W ((s : Int) + (r : Int))) ∧ half (W ((s : Int) + (r : Int))) < (N : Int))
   (.cki (0 ≤ x (W ((p : Int) - half (W ((s : Int) + (r : Int))))).toNat ∧ x (W ((p : Int) - half (W ((s : Int) + (r : Int))))).toNat < (n : Int))
   (.cki (0 ≤ x (half (W ((s : Int) + (r : Int)))).toNat ∧ x (half (W ((s : Int) + (r : Int)))).toNat < (n : Int))
   (.br (!decide (cmpZ (st (x (W ((p : Int) - half (W ((s : Int) + (r : Int))))).toNat).toNat) (st (x (half (W ((s : Int) + (r : Int)))).toNat).toNat) < 0))
    (.ck (fr M n st x) (.leaf (.to (SC N M n a m b x st mid nn (W (half (W ((s : Int) + (r : Int))) + 1)) r p))))
    (.ck (fr M n st x) (.leaf (.to (SC N M n a m b x st mid nn s (half (W ((s : Int) + (r : Int)))) p))))))))))
   (k1 f N M n a m b x st mid s (W ((nn : Int) - (s : Int))))) := by kernel_rfl
end
end
end Go.Gar

set_option linter.unusedVariables false
set_option linter.unusedSimpArgs false
set_option maxHeartbeats 1000000
namespace Go.Gar
open Go Go.EV Go.EV.Srt
noncomputable section
section
variable {f : Nat} {N M n : Nat} {a m b : Nat} {st : Nat → Int}
abbrev QS (M n : Nat) (st : Nat → Int) (y : Nat → Int) : AV → List ABlk → Prop := fun v bs => v = .tup [] ∧ bs = bsS M y n st
theorem finT_wp {x y : Nat → Int} (h : x = y) : (finT M n st x).Wp (EndLw Pr 3 (QS M n st y)) := ⟨fr_ok _ _ _ _, rfl, by rw [h]⟩
theorem W_suc {j : Nat} (h : j ≤ 10000000) : W ((j : Int) + 1) = ((j + 1 : Nat) : Int) := by rw [W_in _ (by omega)]; omega
theorem half_mid {p q : Nat} (h : p + q ≤ 10000000) : half (W ((p : Int) + (q : Int))) = (((p + q) / 2 : Nat) : Int) := by rw [W_add h, half_nat h]
theorem lA' (G : GoodU Pr (U196 f)) {p : Nat} {x : Nat → Int} (hN : N ≤ 1000000) (hp : p ≤ N) : ∀ d k, a ≤ k → k + 1 + d = p → EndsM Pr 3 (SA' N M n a m st p p k (rI (mvU x a (k + 1)))) (QS M n st (mvU x a p))
  | 0, k, hk, hd => by
    refine endsM_of G (tA' f N M n a m (mvU x a (k + 1)) st p p k) ⟨fun h => ?_, fun _ => finT_wp (by rw [show k + 1 = p by omega])⟩
    rw [W_in _ (by omega)] at h
    simp at h; omega
  | d + 1, k, hk, hd => by
    refine endsM_of G (tA' f N M n a m (mvU x a (k + 1)) st p p k) ?_
    rw [W_succ (n := N) (by omega) hN, Int.toNat_natCast, swap_i, mvU_succ hk]
    refine ⟨fun _ => ⟨by omega, by omega, by omega, by omega, ⟨freeI _ _, freeI _ _, trivial⟩, lA' G hN hp d (k + 1) (by omega) (by omega)⟩, fun h => ?_⟩
    rw [W_in _ (by omega)] at h
    simp at h; omega
theorem lB' (G : GoodU Pr (U196 f)) {p : Nat} {x : Nat → Int} (hN : N ≤ 1000000) (hm : m < N) : ∀ d k, k ≤ m → p + d = k → EndsM Pr 3 (SB' N M n a m st p p k (rI (mvD x m k))) (QS M n st (mvD x m p))
  | 0, k, hk, hd => by
    refine endsM_of G (tB' f N M n a m (mvD x m k) st p p k) ⟨fun h => ?_, fun _ => finT_wp (by rw [show k = p by omega])⟩
    simp at h; omega
  | d + 1, k, hk, hd => by
    obtain ⟨k, rfl⟩ : ∃ j, k = j + 1 := ⟨k - 1, by omega⟩
    refine endsM_of G (tB' f N M n a m (mvD x m (k + 1)) st p p (k + 1)) ?_
    rw [W_pred (n := N) (by omega) hN, Int.toNat_natCast, swap_i, mvD_succ (by omega)]
    refine ⟨fun _ => ⟨by omega, by omega, by omega, by omega, ⟨freeI _ _, freeI _ _, trivial⟩, lB' G hN hm d k (by omega) (by omega)⟩, fun h => ?_⟩
    simp at h; omega
theorem lA (G : GoodU Pr (U196 f)) {x : Nat → Int} (hN : N ≤ 1000000) (ha : a < N) (hr : Rng N x n) : ∀ e p q, a < p → p ≤ q → q ≤ N → q - p ≤ e → EndsM Pr 3 (SA N M n a m x st p q) (QS M n st (mvU x a (bsr (P1 (KK st) x a) e p q)))
  | 0, p, q, hp, hpq, hq, he => by
    obtain rfl : p = q := by omega
    refine endsM_of G (tA f N M n a m x st p p) ⟨fun h => by simp at h, fun _ => ⟨fr_ok _ _ _ _, ?_⟩⟩
    have := lA' (f := f) (N := N) (M := M) (n := n) (a := a) (m := m) (st := st) G (p := p) (x := x) hN hq (p - (a + 1)) a (Nat.le_refl _) (by omega)
    rw [mvU_zero] at this
    exact this
  | e + 1, p, q, hp, hpq, hq, he => by
    have hh := half_mid (p := p) (q := q) (by omega)
    refine endsM_of G (tA f N M n a m x st p q) ?_
    rw [hh, Int.toNat_natCast, W_suc (j := (p + q) / 2) (by omega)]
    refine ⟨fun h => ?_, fun h => ⟨fr_ok _ _ _ _, ?_⟩⟩
    · have hlt : p < q := by simp at h; omega
      have h1 := hr ((p + q) / 2) (by omega)
      have h2 := hr a ha
      refine ⟨by decide, by omega, by omega, h1, h2, fun h3 => ⟨fr_ok _ _ _ _, ?_⟩, fun h3 => ⟨fr_ok _ _ _ _, ?_⟩⟩
      · have ih := lA G hN ha hr e ((p + q) / 2 + 1) q (by omega) (by omega) hq (by omega)
        have hP : P1 (KK st) x a ((p + q) / 2) = true := decide_eq_true (cmpZ_neg.mp (of_decide_eq_true h3))
        have hb : bsr (P1 (KK st) x a) (e + 1) p q = bsr (P1 (KK st) x a) e ((p + q) / 2 + 1) q := by
          show (if p < q then _ else _) = _
          rw [if_pos hlt, if_pos hP]
        rw [hb]; exact ih
      · have ih := lA G hN ha hr e p ((p + q) / 2) (by omega) (by omega) (by omega) (by omega)
        have hP : ¬ P1 (KK st) x a ((p + q) / 2) = true := fun hc => of_decide_eq_false h3 (cmpZ_neg.mpr (of_decide_eq_true hc))
        have hb : bsr (P1 (KK st) x a) (e + 1) p q = bsr (P1 (KK st) x a) e p ((p + q) / 2) := by
          show (if p < q then _ else _) = _
          rw [if_pos hlt, if_neg hP]
        rw [hb]; exact ih
    · obtain rfl : p = q := by simp at h; omega
      have := lA' (f := f) (N := N) (M := M) (n := n) (a := a) (m := m) (st := st) G (p := p) (x := x) hN hq (p - (a + 1)) a (Nat.le_refl _) (by omega)
      rw [mvU_zero] at this
      have hb : bsr (P1 (KK st) x a) (e + 1) p p = p := by
        show (if p < p then _ else _) = _
        rw [if_neg (by omega)]
      rw [hb]; exact this
theorem lB (G : GoodU Pr (U196 f)) {x : Nat → Int} (hN : N ≤ 1000000) (hm : m < N) (hr : Rng N x n) : ∀ e p q, p ≤ q → q ≤ m → q - p ≤ e → EndsM Pr 3 (SB N M n a m x st p q) (QS M n st (mvD x m (bsr (P2 (KK st) x m) e p q)))
  | 0, p, q, hpq, hq, he => by
    obtain rfl : p = q := by omega
    refine endsM_of G (tB f N M n a m x st p p) ⟨fun h => by simp at h, fun _ => ⟨fr_ok _ _ _ _, ?_⟩⟩
    have := lB' (f := f) (N := N) (M := M) (n := n) (a := a) (m := m) (st := st) G (p := p) (x := x) hN hm (m - p) m (Nat.le_refl _) (by omega)
    rw [mvD_zero] at this
    exact this
  | e + 1, p, q, hpq, hq, he => by
    have hh := half_mid (p := p) (q := q) (by omega)
    refine endsM_of G (tB f N M n a m x st p q) ?_
    rw [hh, Int.toNat_natCast, W_suc (j := (p + q) / 2) (by omega)]
    refine ⟨fun h => ?_, fun h => ⟨fr_ok _ _ _ _, ?_⟩⟩
    · have hlt : p < q := by simp at h; omega
      have h1 := hr ((p + q) / 2) (by omega)
      have h2 := hr m hm
      refine ⟨by decide, by omega, by omega, h2, h1, fun h3 => ⟨fr_ok _ _ _ _, ?_⟩, fun h3 => ⟨fr_ok _ _ _ _, ?_⟩⟩
      · have ih := lB G hN hm hr e ((p + q) / 2 + 1) q (by omega) hq (by omega)
        have hP : P2 (KK st) x m ((p + q) / 2) = true := by
          unfold P2
          simp only [Bool.not_eq_true', decide_eq_false_iff_not] at h3 ⊢
          exact fun hc => h3 (cmpZ_neg.mpr hc)
        have hb : bsr (P2 (KK st) x m) (e + 1) p q = bsr (P2 (KK st) x m) e ((p + q) / 2 + 1) q := by
          show (if p < q then _ else _) = _
          rw [if_pos hlt, if_pos hP]
        rw [hb]; exact ih
      · have ih := lB G hN hm hr e p ((p + q) / 2) (by omega) (by omega) (by omega)
        have hP : ¬ P2 (KK st) x m ((p + q) / 2) = true := by
          unfold P2
          simp only [Bool.not_eq_false', decide_eq_true_eq, Bool.not_eq_true', decide_eq_false_iff_not] at h3 ⊢
          exact fun hc => hc (cmpZ_neg.mp h3)
        have hb : bsr (P2 (KK st) x m) (e + 1) p q = bsr (P2 (KK st) x m) e p ((p + q) / 2) := by
          show (if p < q then _ else _) = _
          rw [if_pos hlt, if_neg hP]
        rw [hb]; exact ih
    · obtain rfl : p = q := by simp at h; omega
      have := lB' (f := f) (N := N) (M := M) (n := n) (a := a) (m := m) (st := st) G (p := p) (x := x) hN hm (m - p) m (Nat.le_refl _) (by omega)
      rw [mvD_zero] at this
      have hb : bsr (P2 (KK st) x m) (e + 1) p p = p := by
        show (if p < p then _ else _) = _
        rw [if_neg (by omega)]
      rw [hb]; exact this
/-- what is done behind the search -/
def tail (K : Int → Int) (f : Nat) (x : Nat → Int) (a m b mid s : Nat) : Nat → Int :=
  let e := mid + m - s
  let x1 := if s < m ∧ m < e then rot x s m e else x
  let x2 := if a < s ∧ s < mid then Srt.symM K f x1 a s mid else x1
  if mid < e ∧ e < b then Srt.symM K f x2 mid e b else x2
theorem symM_perm {K : Int → Int} : ∀ {f : Nat} {x : Nat → Int} {a m b : Nat}, a < m → m < b → PermOn a b x (Srt.symM K f x a m b)
  | 0, x, a, m, b, _, _ => PermOn.refl _ _ _
  | f + 1, x, a, m, b, h1, h2 => by
    unfold Srt.symM
    by_cases c1 : m - a = 1
    · rw [if_pos c1]
      obtain ⟨r1, r2, _, _⟩ := bsr_rng (P := P1 K x a) (f := b - m) (i := m) (j := b) (by omega)
      exact mvU_perm (by omega) (by omega)
    · rw [if_neg c1]
      by_cases c2 : b - m = 1
      · rw [if_pos c2]
        obtain ⟨r1, r2, _, _⟩ := bsr_rng (P := P2 K x m) (f := m - a) (i := a) (j := m) (by omega)
        exact mvD_perm (by omega) (by omega) (by omega)
      · rw [if_neg c2]
        simp only
        have hst : st0 a m b ≤ r0 a m b := by unfold st0 r0; split <;> omega
        obtain ⟨r1, r2, _, _⟩ := bsr_rng (P := P3 K x ((a + b) / 2 + m - 1)) (f := r0 a m b - st0 a m b) (i := st0 a m b) (j := r0 a m b) hst
        have hsS : bsr (P3 K x ((a + b) / 2 + m - 1)) (r0 a m b - st0 a m b) (st0 a m b) (r0 a m b) = stS K x a m b := rfl
        rw [hsS] at r1 r2
        revert r1 r2
        generalize stS K x a m b = s
        intro r1 r2
        have hsm : s ≤ m ∧ s ≤ (a + b) / 2 := by unfold r0 at r2; split at r2 <;> omega
        have hsa : a ≤ s ∧ (a + b) / 2 + m - s ≤ b := by unfold st0 at r1; split at r1 <;> omega
        have p1 : PermOn a b x (if s < m ∧ m < (a + b) / 2 + m - s then rot x s m ((a + b) / 2 + m - s) else x) := by
          split
          · exact (rot_perm hsm.1 (by omega)).wide (by omega) (by omega)
          · exact PermOn.refl _ _ _
        refine p1.trans ?_
        generalize (if s < m ∧ m < (a + b) / 2 + m - s then rot x s m ((a + b) / 2 + m - s) else x) = x1
        have p2 : PermOn a b x1 (if a < s ∧ s < (a + b) / 2 then Srt.symM K f x1 a s ((a + b) / 2) else x1) := by
          split
          · rename_i hq
            exact (symM_perm hq.1 hq.2).wide (Nat.le_refl _) (by omega)
          · exact PermOn.refl _ _ _
        refine p2.trans ?_
        generalize (if a < s ∧ s < (a + b) / 2 then Srt.symM K f x1 a s ((a + b) / 2) else x1) = x2
        split
        · rename_i hq
          exact (symM_perm hq.1 hq.2).wide (by omega) (Nat.le_refl _)
        · exact PermOn.refl _ _ _
where bsr_rng {P : Nat → Bool} : ∀ {f i j : Nat}, i ≤ j → i ≤ bsr P f i j ∧ bsr P f i j ≤ j ∧ True ∧ True
  | 0, i, j, h => ⟨Nat.le_refl _, h, trivial, trivial⟩
  | f + 1, i, j, h => by
    unfold bsr
    split
    · split
      · have := bsr_rng (P := P) (f := f) (i := (i + j) / 2 + 1) (j := j) (by omega)
        exact ⟨by omega, this.2.1, trivial, trivial⟩
      · have := bsr_rng (P := P) (f := f) (i := i) (j := (i + j) / 2) (by omega)
        exact ⟨this.1, by omega, trivial, trivial⟩
    · exact ⟨Nat.le_refl _, h, trivial, trivial⟩
theorem callT_wp {c : Prop} {x x' y : Nat → Int} {k : (Nat → Int) → T Lw} (hc : c) (h : (k x').Wp (EndLw Pr 3 (QS M n st y))) : (callT M n st c x x' k).Wp (EndLw Pr 3 (QS M n st y)) :=
  ⟨fr_ok _ _ _ _, ⟨rfl, rfl, isI _ _, isI _ _, hc⟩, h⟩
theorem k3_wp {mid e : Nat} {x : Nat → Int} (hN : N ≤ 1000000) (hb : b ≤ N) (hf : b - mid ≤ f) (hr : Rng N x n) :
    (k3 f N M n b st mid e x).Wp (EndLw Pr 3 (QS M n st (if mid < e ∧ e < b then Srt.symM (KK st) f x mid e b else x))) := by
  refine ⟨fun h => ⟨fun h1 => ?_, fun h1 => ?_⟩, fun h => ?_⟩
  · simp only [decide_eq_true_eq] at h h1
    rw [if_pos (by omega)]
    exact callT_wp ⟨hN, by omega, by omega, by omega, by omega, by omega, hr⟩ (finT_wp rfl)
  · simp only [decide_eq_true_eq, decide_eq_false_iff_not] at h h1
    rw [if_neg (by omega)]
    exact finT_wp rfl
  · simp only [decide_eq_false_iff_not] at h
    rw [if_neg (by omega)]
    exact finT_wp rfl
theorem k2_wp {mid s e : Nat} {x : Nat → Int} (hN : N ≤ 1000000) (hb : b ≤ N) (hmb : mid < b) (ham : a < mid) (hf : b - a ≤ f + 1) (hr : Rng N x n) :
    (k2 f N M n a b st mid s e x).Wp (EndLw Pr 3 (QS M n st (if mid < e ∧ e < b then Srt.symM (KK st) f (if a < s ∧ s < mid then Srt.symM (KK st) f x a s mid else x) mid e b else (if a < s ∧ s < mid then Srt.symM (KK st) f x a s mid else x)))) := by
  refine ⟨fun h => ⟨fun h1 => ?_, fun h1 => ?_⟩, fun h => ?_⟩
  · simp only [decide_eq_true_eq] at h h1
    rw [if_pos (show a < s ∧ s < mid by omega)]
    exact callT_wp ⟨hN, by omega, by omega, by omega, by omega, by omega, hr⟩ (k3_wp hN hb (by omega) (hr.perm (a := a) (b := mid) (symM_perm (by omega) (by omega)) (by omega)))
  · simp only [decide_eq_true_eq, decide_eq_false_iff_not] at h h1
    rw [if_neg (show ¬ (a < s ∧ s < mid) by omega)]
    exact k3_wp hN hb (by omega) hr
  · simp only [decide_eq_false_iff_not] at h
    rw [if_neg (show ¬ (a < s ∧ s < mid) by omega)]
    exact k3_wp hN hb (by omega) hr
theorem k1_wp {mid s : Nat} {x : Nat → Int} (hN : N ≤ 1000000) (hb : b ≤ N) (hmb : mid < b) (ham : a < mid) (hf : b - a ≤ f + 1) (hr : Rng N x n) (hs : s ≤ mid) (he : mid + m - s ≤ b) :
    (k1 f N M n a m b x st mid s ((mid + m - s : Nat) : Int)).Wp (EndLw Pr 3 (QS M n st (tail (KK st) f x a m b mid s))) := by
  unfold tail
  simp only
  generalize hee : mid + m - s = e at *
  refine ⟨fun h => ⟨fun h1 => ?_, fun h1 => ?_⟩, fun h => ?_⟩
  · simp only [decide_eq_true_eq] at h h1
    rw [if_pos (show s < m ∧ m < e by omega)]
    exact callT_wp ⟨hN, by omega, by omega, by omega, by omega⟩ (k2_wp hN hb hmb ham hf (hr.perm (a := s) (b := e) (rot_perm (by omega) (by omega)) (by omega)))
  · simp only [decide_eq_true_eq, decide_eq_false_iff_not] at h h1
    rw [if_neg (show ¬ (s < m ∧ m < e) by omega)]
    exact k2_wp hN hb hmb ham hf hr
  · simp only [decide_eq_false_iff_not] at h
    rw [if_neg (show ¬ (s < m ∧ m < e) by omega)]
    exact k2_wp hN hb hmb ham hf hr
theorem lC (G : GoodU Pr (U196 f)) {mid : Nat} {x : Nat → Int} (hN : N ≤ 1000000) (hb : b ≤ N) (hmid : mid = (a + b) / 2) (ham : a < m) (hmb : m < b) (h2 : 2 ≤ b - a) (hf : b - a ≤ f + 1) (hr : Rng N x n) :
    ∀ e s r, s ≤ r → r - s ≤ e → st0 a m b ≤ s → r ≤ r0 a m b → EndsM Pr 3 (SC N M n a m b x st mid ((mid + m : Nat) : Int) s r ((mid + m - 1 : Nat) : Int)) (QS M n st (tail (KK st) f x a m b mid (bsr (P3 (KK st) x (mid + m - 1)) e s r))) := by
  have hrm : r0 a m b ≤ m ∧ r0 a m b ≤ mid := by subst hmid; unfold r0; split <;> omega
  have hsa : a ≤ st0 a m b ∧ mid + m - st0 a m b ≤ b := by subst hmid; unfold st0; split <;> omega
  have hend : ∀ s, st0 a m b ≤ s → s ≤ r0 a m b → (k1 f N M n a m b x st mid s (W (((mid + m : Nat) : Int) - (s : Int)))).Wp (EndLw Pr 3 (QS M n st (tail (KK st) f x a m b mid s))) := by
    intro s h3 h4
    rw [W_sub (a := mid + m) (b := s) (by omega) (by omega)]
    exact k1_wp hN hb (by omega) (by omega) hf hr (by omega) (by omega)
  intro e
  induction e with
  | zero =>
    intro s r hsr he hs0 hr0
    obtain rfl : s = r := by omega
    exact endsM_of G (tC f N M n a m b x st mid (mid + m) s s (mid + m - 1)) ⟨fun h => by simp at h, fun _ => hend s hs0 hr0⟩
  | succ e ih =>
    intro s r hsr he hs0 hr0
    have hh := half_mid (p := s) (q := r) (by omega)
    refine endsM_of G (tC f N M n a m b x st mid (mid + m) s r (mid + m - 1)) ?_
    rw [hh, Int.toNat_natCast, W_suc (j := (s + r) / 2) (by omega), W_sub (a := mid + m - 1) (b := (s + r) / 2) (by omega) (by omega), Int.toNat_natCast]
    refine ⟨fun h => ?_, fun h => ?_⟩
    · have hlt : s < r := by simp at h; omega
      have h1 := hr ((s + r) / 2) (by omega)
      have h3 := hr (mid + m - 1 - (s + r) / 2) (by omega)
      refine ⟨by decide, by omega, by omega, h3, h1, fun h3 => ⟨fr_ok _ _ _ _, ?_⟩, fun h3 => ⟨fr_ok _ _ _ _, ?_⟩⟩
      · have hP : P3 (KK st) x (mid + m - 1) ((s + r) / 2) = true := by
          unfold P3
          simp only [Bool.not_eq_true', decide_eq_false_iff_not] at h3 ⊢
          exact fun hc => h3 (cmpZ_neg.mpr hc)
        have hb : bsr (P3 (KK st) x (mid + m - 1)) (e + 1) s r = bsr (P3 (KK st) x (mid + m - 1)) e ((s + r) / 2 + 1) r := by
          show (if s < r then _ else _) = _
          rw [if_pos hlt, if_pos hP]
        rw [hb]; exact ih ((s + r) / 2 + 1) r (by omega) (by omega) (by omega) hr0
      · have hP : ¬ P3 (KK st) x (mid + m - 1) ((s + r) / 2) = true := by
          unfold P3
          simp only [Bool.not_eq_false', decide_eq_true_eq, Bool.not_eq_true', decide_eq_false_iff_not] at h3 ⊢
          exact fun hc => hc (cmpZ_neg.mp h3)
        have hb : bsr (P3 (KK st) x (mid + m - 1)) (e + 1) s r = bsr (P3 (KK st) x (mid + m - 1)) e s ((s + r) / 2) := by
          show (if s < r then _ else _) = _
          rw [if_pos hlt, if_neg hP]
        rw [hb]; exact ih s ((s + r) / 2) (by omega) (by omega) hs0 (by omega)
    · obtain rfl : s = r := by simp at h; omega
      have hb : bsr (P3 (KK st) x (mid + m - 1)) (e + 1) s s = s := by
        show (if s < s then _ else _) = _
        rw [if_neg (by omega)]
      rw [hb]; exact hend s hs0 hr0
theorem hab_eq (h : a + b ≤ 10000000) : hab a b = (((a + b) / 2 : Nat) : Int) := half_mid h
theorem c196' (G : GoodU Pr (U196 f)) {x : Nat → Int} (hN : N ≤ 1000000) (ham : a < m) (hmb : m < b) (hb : b ≤ N) (hf : b - a ≤ f + 1) (hr : Rng N x n) :
    MutCall Pr 196 [dt N, i a, i m, i b, cm] (bsS M x n st) (.tup []) (bsS M (Srt.symM (KK st) (f + 1) x a m b) n st) := by
  refine mut_of_eq (p := 3) rfl (by kernel_rfl) (endsM_of G (e196 f N M n a m b x st) ?_)
  rw [hab_eq (by omega), W_sub (a := m) (b := a) (by omega) (by omega), W_sub (a := b) (b := m) (by omega) (by omega), W_add (a := (a + b) / 2) (b := m) (by omega)]
  unfold Srt.symM
  refine ⟨fun h => ⟨fr_ok _ _ _ _, ?_⟩, fun h => ⟨fun h1 => ⟨fr_ok _ _ _ _, ?_⟩, fun h1 => ⟨by decide, fun h2 => ⟨fr_ok _ _ _ _, ?_⟩, fun h2 => ⟨fr_ok _ _ _ _, ?_⟩⟩⟩⟩
  · have h : m - a = 1 := by simp at h; omega
    rw [if_pos h]
    exact lA G hN (by omega) hr (b - m) m b ham (by omega) hb (Nat.le_refl _)
  · have h : ¬ m - a = 1 := by simp at h; omega
    have h1 : b - m = 1 := by simp at h1; omega
    rw [if_neg h, if_pos h1]
    exact lB G hN (by omega) hr (m - a) a m (by omega) (Nat.le_refl _) (Nat.le_refl _)
  all_goals
    have h : ¬ m - a = 1 := by simp at h; omega
    have h1 : ¬ b - m = 1 := by simp at h1; omega
    rw [if_neg h, if_neg h1]
    have hp : W ((((a + b) / 2 + m : Nat) : Int) - 1) = (((a + b) / 2 + m - 1 : Nat) : Int) := by rw [W_in _ (by omega)]; omega
    rw [hp]
    have hst : st0 a m b ≤ r0 a m b := by unfold st0 r0; split <;> omega
    have hC := lC (f := f) (N := N) (M := M) (n := n) (a := a) (m := m) (b := b) (st := st) G (x := x) hN hb rfl ham hmb (by omega) hf hr (r0 a m b - st0 a m b) (st0 a m b) (r0 a m b) hst (Nat.le_refl _) (Nat.le_refl _) (Nat.le_refl _)
  · have h2 : (a + b) / 2 < m := by simp at h2; omega
    rw [W_sub (a := (a + b) / 2 + m) (b := b) (by omega) (by omega)]
    rw [show st0 a m b = (a + b) / 2 + m - b from if_pos h2, show r0 a m b = (a + b) / 2 from if_pos h2] at hC
    simp only [stS, show st0 a m b = (a + b) / 2 + m - b from if_pos h2, show r0 a m b = (a + b) / 2 from if_pos h2]
    exact hC
  · have h2 : ¬ (a + b) / 2 < m := by simp at h2; omega
    rw [show st0 a m b = a from if_neg h2, show r0 a m b = m from if_neg h2] at hC
    simp only [stS, show st0 a m b = a from if_neg h2, show r0 a m b = m from if_neg h2]
    exact hC
end
theorem c196 : ∀ f, MutSpec Pr 196 (sortF (cond196 f) (res196 f) ar3)
  | 0 => sort_spec fun l N r har M x n st hc => by
    obtain ⟨a, m, b, rfl, rfl⟩ := ar3_eq har
    obtain ⟨h1, h2, h3, h4, h5, h6, h7⟩ := hc
    exfalso; omega
  | f + 1 => sort_spec fun l N r har M x n st hc => by
    obtain ⟨a, m, b, rfl, rfl⟩ := ar3_eq har
    obtain ⟨h1, h2, h3, h4, h5, h6, h7⟩ := hc
    obtain ⟨a, rfl⟩ := Int.eq_ofNat_of_zero_le h2
    obtain ⟨m, rfl⟩ := Int.eq_ofNat_of_zero_le (show 0 ≤ m by omega)
    obtain ⟨b, rfl⟩ := Int.eq_ofNat_of_zero_le (show 0 ≤ b by omega)
    exact c196' (G196 (c196 f)) h1 (by omega) (by omega) (by omega) (by omega) h7
end
end Go.Gar

set_option linter.unusedVariables false
set_option linter.unusedSimpArgs false
set_option maxHeartbeats 1000000
namespace Go.Gar
open Go Go.EV Go.EV.Srt
noncomputable section
/-! the whole sort, of up to 40 -/
def U123 : USum := addM (addM noU 195 (sortF cond195 res195 ar2)) 196 (sortF (cond196 40) (res196 40) ar3)
theorem G123 : GoodU Pr U123 := (G0.addM c195).addM (c196 40)
def y123 : Hy := hyp 3 [(123, [13, 30, 35, 54])] [(123, [(2, [0, 1, 2, 6, 7, 8]), (1, [0, 1, 2, 6]), (5, [0, 1, 2, 6, 7, 8])])] [] []
section
variable (N M n : Nat) (nn bl a b : Nat) (x st : Nat → Int)
def Sa (bl a b : Int) (x : Nat → Int) : AM := hd 123 63 [(0, dt N), (1, i nn), (2, cm), (6, i bl), (7, i a), (8, i b)] (tdo Pr 123 0) (bsS M x n st)
def Sb (bl : Int) (x : Nat → Int) : AM := hd 123 63 [(0, dt N), (1, i nn), (2, cm), (6, i bl)] (tdo Pr 123 1) (bsS M x n st)
def Sc (bl a b : Int) (x : Nat → Int) : AM := hd 123 63 [(0, dt N), (1, i nn), (2, cm), (6, i bl), (7, i a), (8, i b)] (tdo Pr 123 2) (bsS M x n st)
def toS (S : (Nat → Int) → AM) (x : Nat → Int) : T Lw := .ck (fr M n st x) (.leaf (.to (S x)))
theorem e123 : symM Pr U123 y123 70 (sttB Pr 123 [dt N, i nn, cm] (bsS M x n st)) = toS M n st (Sa N M n nn st 20 0 20) x := by kernel_rfl
theorem tSa : symM Pr U123 y123 100 (Sa N M n nn st bl a b x) =
  .br (decide ((b : Int) ≤ (nn : Int)))
   (callT M n st (cond195 N M x n st [(a : Int), (b : Int)]) x (res195 x st [(a : Int), (b : Int)]) (toS M n st (Sa N M n nn st bl b (W ((b : Int) + (bl : Int))))))
   (callT M n st (cond195 N M x n st [(a : Int), (nn : Int)]) x (res195 x st [(a : Int), (nn : Int)]) (toS M n st (Sb N M n nn st bl))) := by kernel_rfl
theorem tSb : symM Pr U123 y123 80 (Sb N M n nn st bl x) =
  .br (decide ((bl : Int) < (nn : Int))) (toS M n st (Sc N M n nn st bl 0 (W (2 * (bl : Int)))) x) (finT M n st x) := by kernel_rfl
theorem tSc : symM Pr U123 y123 130 (Sc N M n nn st bl a b x) =
  .br (decide ((b : Int) ≤ (nn : Int)))
   (callT M n st (cond196 40 N M x n st [(a : Int), W ((a : Int) + (bl : Int)), (b : Int)]) x (res196 40 x st [(a : Int), W ((a : Int) + (bl : Int)), (b : Int)]) (toS M n st (Sc N M n nn st bl b (W ((b : Int) + W (2 * (bl : Int)))))))
   (.br (decide (W ((a : Int) + (bl : Int)) < (nn : Int)))
    (callT M n st (cond196 40 N M x n st [(a : Int), W ((a : Int) + (bl : Int)), (nn : Int)]) x (res196 40 x st [(a : Int), W ((a : Int) + (bl : Int)), (nn : Int)]) (toS M n st (Sb N M n nn st (W ((bl : Int) * 2)))))
    (toS M n st (Sb N M n nn st (W ((bl : Int) * 2))) x)) := by kernel_rfl
end
section
variable {N M n nn : Nat} {x st : Nat → Int}
theorem toS_wp {S : (Nat → Int) → AM} {x y : Nat → Int} (h : EndsM Pr 3 (S x) (QS M n st y)) : (toS M n st S x).Wp (EndLw Pr 3 (QS M n st y)) := ⟨fr_ok _ _ _ _, h⟩
theorem lSb40 (hn : nn ≤ 40) : EndsM Pr 3 (Sb N M n nn st 40 x) (QS M n st x) :=
  endsM_of G123 (tSb N M n nn 40 x st) ⟨fun h => by simp at h; omega, fun _ => finT_wp rfl⟩
theorem w40 : W ((20 : Int) * 2) = 40 := by rw [W_in _ (by omega)]; rfl
theorem w40' : W (2 * ((20 : Nat) : Int)) = ((40 : Nat) : Int) := by rw [W_in _ (by omega)]; rfl
theorem lSb20 (hN : N = nn) (hn : nn ≤ 40) (hr : Rng N x n) : EndsM Pr 3 (Sb N M n nn st 20 x) (QS M n st (if 20 < nn then Srt.symM (KK st) 40 x 0 20 nn else x)) := by
  subst hN
  by_cases h20 : 20 < N
  · rw [if_pos h20]
    refine endsM_of G123 (tSb N M n N 20 x st) ⟨fun h => toS_wp ?_, fun h => by simp at h; omega⟩
    rw [w40']
    have e1 : W (((0 : Nat) : Int) + ((20 : Nat) : Int)) = 20 := by rw [W_in _ (by omega)]; rfl
    refine endsM_of G123 (tSc N M n N 20 0 40 x st) ⟨fun h => ?_, fun h => ⟨fun h1 => ?_, fun h1 => ?_⟩⟩
    · obtain rfl : N = 40 := by simp at h; omega
      rw [e1]
      refine callT_wp ⟨by omega, by omega, by omega, by omega, by omega, by omega, hr⟩ (toS_wp ?_)
      have e2 : W (((40 : Nat) : Int) + W (2 * ((20 : Nat) : Int))) = ((80 : Nat) : Int) := by rw [w40', W_in _ (by omega)]; rfl
      rw [e2]
      refine endsM_of G123 (tSc 40 M n 40 20 40 80 _ st) ⟨fun h => by simp at h, fun _ => ⟨fun h => ?_, fun _ => toS_wp ?_⟩⟩
      · exfalso
        rw [W_in _ (by omega)] at h
        simp at h
      · rw [show W (((20 : Nat) : Int) * 2) = 40 from w40]
        exact lSb40 (by omega)
    · rw [e1]
      refine callT_wp ⟨by omega, by omega, by omega, by omega, by omega, by omega, hr⟩ (toS_wp ?_)
      rw [show W (((20 : Nat) : Int) * 2) = 40 from w40]
      exact lSb40 hn
    · exfalso
      rw [e1] at h1
      simp at h1; omega
  · rw [if_neg h20]
    exact endsM_of G123 (tSb N M n N 20 x st) ⟨fun h => by simp at h; omega, fun _ => finT_wp rfl⟩
theorem lS (hN : N = nn) (hn : nn ≤ 40) (hr : Rng N x n) : EndsM Pr 3 (Sa N M n nn st 20 0 20 x) (QS M n st (stab (KK st) x nn)) := by
  subst hN
  have w4 : W (((20 : Nat) : Int) + ((20 : Nat) : Int)) = ((40 : Nat) : Int) := by rw [W_in _ (by omega)]; rfl
  have w6 : W (((40 : Nat) : Int) + ((20 : Nat) : Int)) = ((60 : Nat) : Int) := by rw [W_in _ (by omega)]; rfl
  have hb : ∀ y : Nat → Int, Rng N y n → stab (KK st) x N = (if 20 < N then Srt.symM (KK st) 40 y 0 20 N else y) → EndsM Pr 3 (Sb N M n N st 20 y) (QS M n st (stab (KK st) x N)) := fun y hy h => by
    rw [h]; exact lSb20 rfl hn hy
  by_cases h1 : N < 20
  · refine endsM_of G123 (tSa N M n N 20 0 20 x st) ⟨fun h => by simp at h; omega, fun _ => callT_wp ⟨by omega, by omega, by omega, by omega, hr⟩ (toS_wp (hb _ ?_ ?_))⟩
    · rcases Nat.eq_zero_or_pos N with h0 | h0
      · subst h0; intro k hk; omega
      · exact insS_rng hr _ (by show 0 + (N - 0 - 1) < N; omega)
    · unfold stab; rw [if_pos h1, if_neg (by omega)]; rfl
  · refine endsM_of G123 (tSa N M n N 20 0 20 x st) ⟨fun _ => callT_wp ⟨by omega, by omega, by omega, by omega, hr⟩ (toS_wp ?_), fun h => by simp at h; omega⟩
    rw [w4]
    have hr1 : Rng N (insS (KK st) 0 19 x) n := insS_rng hr _ (by omega)
    show EndsM Pr 3 (Sa N M n N st 20 20 ((40 : Nat) : Int) (insS (KK st) 0 19 x)) _
    by_cases h2 : N = 40
    · subst h2
      refine endsM_of G123 (tSa 40 M n 40 20 20 40 _ st) ⟨fun _ => callT_wp ⟨by omega, by omega, by omega, by omega, hr1⟩ (toS_wp ?_), fun h => by simp at h⟩
      rw [w6]
      have hr2 : Rng 40 (insS (KK st) 20 19 (insS (KK st) 0 19 x)) n := insS_rng hr1 _ (by omega)
      show EndsM Pr 3 (Sa 40 M n 40 st 20 40 ((60 : Nat) : Int) (insS (KK st) 20 19 (insS (KK st) 0 19 x))) _
      refine endsM_of G123 (tSa 40 M n 40 20 40 60 _ st) ⟨fun h => by simp at h, fun _ => callT_wp ⟨by omega, by omega, by omega, by omega, hr2⟩ (toS_wp (hb _ hr2 ?_))⟩
      unfold stab
      rw [if_neg (by omega), if_neg (by omega), if_pos (by omega)]; rfl
    · refine endsM_of G123 (tSa N M n N 20 20 40 _ st) ⟨fun h => by simp at h; omega, fun _ => callT_wp ⟨by omega, by omega, by omega, by omega, hr1⟩ (toS_wp (hb _ ?_ ?_))⟩
      · show Rng N (insS (KK st) 20 (N - 20 - 1) (insS (KK st) 0 19 x)) n
        by_cases h3 : N = 20
        · subst h3; exact hr1
        · exact insS_rng hr1 _ (by omega)
      · unfold stab
        by_cases h3 : N = 20
        · subst h3
          rw [if_neg (by omega), if_pos rfl, if_neg (by omega)]; rfl
        · rw [if_neg h1, if_neg h3, if_pos (by omega)]; rfl
theorem c123' (hN : N = nn) (hn : nn ≤ 40) (hr : Rng N x n) : MutCall Pr 123 [dt N, i nn, cm] (bsS M x n st) (.tup []) (bsS M (stab (KK st) x nn) n st) :=
  mut_of_eq (p := 3) rfl (by kernel_rfl) (endsM_of G123 (e123 N M n nn x st) (toS_wp (lS hN hn hr)))
end
def ar1 : List AV → Option (Nat × List Int)
  | [.es 8 0 N none 1, .int .i64 a, .fn (.func 44) [] [.ptr 9 0]] => some (N, [a])
  | _ => none
def cond123 (N M : Nat) (x : Nat → Int) (n : Nat) (st : Nat → Int) : List Int → Prop
  | [a] => a = N ∧ N ≤ 40 ∧ Rng N x n
  | _ => False
def res123 (x st : Nat → Int) : List Int → Nat → Int
  | [a] => stab (KK st) x a.toNat
  | _ => x
theorem c123 : MutSpec Pr 123 (sortF cond123 res123 ar1) := sort_spec fun l N r har M x n st hc => by
  unfold ar1 at har
  split at har
  · rename_i N' a
    simp only [Option.some.injEq, Prod.mk.injEq] at har
    obtain ⟨rfl, rfl⟩ := har
    obtain ⟨rfl, h2, h3⟩ := hc
    exact c123' rfl h2 h3
  · cases har
end
end Go.Gar
