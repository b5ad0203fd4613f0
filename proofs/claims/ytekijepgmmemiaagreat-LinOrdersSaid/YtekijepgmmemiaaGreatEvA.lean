/- Own text of this claim: an abstract machine over the given program form, and what follows from it. No condition. -/
import Derived.Test.YtekijepgmmemiaaGreatEv9
set_option linter.unusedVariables false
set_option linter.unusedSimpArgs false
set_option maxHeartbeats 1000000
namespace Go.EV

/-! ### equality -/
mutual
theorem AV.beq_eq : ∀ {a b : AV}, AV.beq a b = true → a = b
  | .int k a, b, h => by cases b <;> simp [AV.beq] at h ⊢; exact h
  | .bool a, b, h => by cases b <;> simp [AV.beq] at h ⊢; exact h
  | .str a, b, h => by cases b <;> simp [AV.beq] at h ⊢; exact h
  | .ptr a o, b, h => by cases b <;> simp [AV.beq] at h ⊢; exact h
  | .nilptr, b, h => by cases b <;> simp [AV.beq] at h ⊢
  | .sl a o l c e, b, h => by cases b <;> simp [AV.beq] at h ⊢; exact ⟨h.1.1.1.1, h.1.1.1.2, h.1.1.2, h.1.2, h.2⟩
  | .nilsl, b, h => by cases b <;> simp [AV.beq] at h ⊢
  | .slz a, b, h => by cases b <;> simp [AV.beq] at h ⊢; exact h
  | .mp a, b, h => by cases b <;> simp [AV.beq] at h ⊢; exact h
  | .nilmap, b, h => by cases b <;> simp [AV.beq] at h ⊢
  | .fn f a c, b, h => by cases b <;> simp [AV.beq] at h ⊢; exact ⟨h.1.1, AV.beqs_eq h.1.2, AV.beqs_eq h.2⟩
  | .nilfn, b, h => by cases b <;> simp [AV.beq] at h ⊢
  | .yld a, b, h => by cases b <;> simp [AV.beq] at h ⊢; exact h
  | .agg a, b, h => by cases b <;> simp [AV.beq] at h ⊢; exact AV.beqs_eq h
  | .tup a, b, h => by cases b <;> simp [AV.beq] at h ⊢; exact AV.beqs_eq h
theorem AV.beqs_eq : ∀ {a b : List AV}, AV.beqs a b = true → a = b
  | [], b, h => by cases b <;> simp [AV.beqs] at h ⊢
  | x :: xs, b, h => by
    cases b <;> simp [AV.beqs] at h ⊢
    exact ⟨AV.beq_eq h.1, AV.beqs_eq h.2⟩
end

/-! ### an order that a region may draw -/
def edgeSet (ops : Array Oper) (i j : Nat) : Prop := ∃ o, ops[i]? = some o ∧ j ∈ edgesOf o

theorem mem_edgesL {j : Nat} : ∀ {l : List Edge}, j ∈ edgesL l ↔ ∃ e ∈ l, Region.binds .any e = true ∧ e.on = j
  | [] => by simp [edgesL]
  | e :: l => by
    simp only [edgesL]
    split
    · rename_i h; simp [mem_edgesL (l := l), h]
      constructor
      · rintro (rfl | ⟨x, h1, h2, h3⟩)
        · exact .inl rfl
        · exact .inr ⟨x, h1, h2, h3⟩
      · rintro (rfl | ⟨x, h1, h2, h3⟩)
        · exact .inl rfl
        · exact .inr ⟨x, h1, h2, h3⟩
    · rename_i h; simp [mem_edgesL (l := l), h]

/-- a list of operations, each behind all that it must be behind -/
inductive Topo (ops : Array Oper) : List Nat → Prop where
  | nil : Topo ops []
  | cons {i : Nat} {L : List Nat} : i < ops.size → i ∉ L → (∀ o, ops[i]? = some o → ∀ j ∈ edgesOf o, j ∉ i :: L) → Topo ops L → Topo ops (i :: L)

def cntF (D : Array Bool) : Nat := D.toList.countP (fun b => !b)

theorem mem_ready {ops : Array Oper} {D : Array Bool} {i : Nat} : i ∈ Region.ready .any ops D ↔ i < ops.size ∧ D.getD i true = false ∧ ∀ o, ops[i]? = some o → ∀ j ∈ edgesOf o, D.getD j false = true := by
  unfold Region.ready
  rw [List.mem_filter, List.mem_range]
  constructor
  · rintro ⟨h1, h2⟩
    simp only [Bool.and_eq_true, Bool.not_eq_true'] at h2
    refine ⟨h1, h2.1, fun o ho j hj => ?_⟩
    have h3 := h2.2
    rw [ho] at h3
    simp only [Option.map_some, Option.getD_some, Array.all_eq_true'] at h3
    obtain ⟨e, he, hb, rfl⟩ := mem_edgesL.mp hj
    have := h3 e (by simpa using he)
    simpa [hb] using this
  · rintro ⟨h1, h2, h3⟩
    refine ⟨h1, ?_⟩
    simp only [Bool.and_eq_true, Bool.not_eq_true']
    refine ⟨h2, ?_⟩
    have ho : ops[i]? = some ops[i] := Array.getElem?_eq_getElem h1
    rw [ho]
    simp only [Option.map_some, Option.getD_some, Array.all_eq_true']
    intro e he
    cases hb : Region.binds .any e with
    | false => simp
    | true =>
      simp only [Bool.not_true, Bool.false_or]
      exact h3 _ ho _ (mem_edgesL.mpr ⟨e, by simpa using he, hb, rfl⟩)

theorem cnt_set : ∀ (l : List Bool) (i : Nat), l[i]? = some false → (l.set i true).countP (fun b => !b) + 1 = l.countP (fun b => !b)
  | [], i, h => by simp at h
  | b :: l, 0, h => by simp at h; subst h; simp
  | b :: l, i + 1, h => by
    simp at h
    have := cnt_set l i h
    simp only [List.set_cons_succ, List.countP_cons]
    omega

theorem cntF_set {D : Array Bool} {i : Nat} (hi : i < D.size) (h : D.getD i true = false) : cntF (D.setIfInBounds i true) + 1 = cntF D := by
  unfold cntF
  rw [Array.toList_setIfInBounds]
  exact cnt_set _ _ (by simpa [hi] using h)

theorem go_spec {ops : Array Oper} (hback : ∀ i o, ops[i]? = some o → ∀ j ∈ edgesOf o, j < i) : ∀ (fuel t : Nat) (D : Array Bool), D.size = ops.size → cntF D ≤ fuel →
    Topo ops (Region.linearise.go .any ops fuel t D []) ∧ (∀ i, i ∈ Region.linearise.go .any ops fuel t D [] ↔ i < ops.size ∧ D.getD i true = false) := by
  intro fuel
  induction fuel with
  | zero =>
    intro t D hs hc
    have hall : ∀ i, i < ops.size → D.getD i true = true := by
      intro i hi
      cases hd : D.getD i true with
      | true => rfl
      | false =>
        exfalso
        have := cntF_set (i := i) (by omega) hd
        omega
    refine ⟨by simp [Region.linearise.go]; exact .nil, fun i => ?_⟩
    simp only [Region.linearise.go, List.reverse_nil, List.not_mem_nil, false_iff]
    rintro ⟨h1, h2⟩
    rw [hall i h1] at h2; cases h2
  | succ fuel ih =>
    intro t D hs hc
    have hgo : Region.linearise.go .any ops (fuel + 1) t D [] = (match (Region.ready .any ops D)[t % (Region.ready .any ops D).length]? with
      | some i => Region.linearise.go .any ops fuel (t / (Region.ready .any ops D).length) (D.setIfInBounds i true) [i]
      | none => []) := rfl
    rw [hgo]
    cases hi : (Region.ready .any ops D)[t % (Region.ready .any ops D).length]? with
    | none =>
      have hnil : Region.ready .any ops D = [] := by
        cases hr : Region.ready .any ops D with
        | nil => rfl
        | cons x xs =>
          rw [hr] at hi
          have hlt : t % (x :: xs).length < (x :: xs).length := Nat.mod_lt _ (by simp)
          rw [List.getElem?_eq_getElem hlt] at hi
          cases hi
      -- the first one that is not there would be ready
      have hall : ∀ n i, i ≤ n → i < ops.size → D.getD i true = true := by
        intro n
        induction n with
        | zero =>
          intro i hi0 hi
          obtain rfl : i = 0 := by omega
          cases hd : D.getD 0 true with
          | true => rfl
          | false =>
            have : 0 ∈ Region.ready .any ops D := mem_ready.mpr ⟨hi, hd, fun o ho j hj => absurd (hback 0 o ho j hj) (by omega)⟩
            rw [hnil] at this; cases this
        | succ n ihn =>
          intro i hin hi
          rcases Nat.lt_or_ge i (n + 1) with h1 | h1
          · exact ihn i (by omega) hi
          · cases hd : D.getD i true with
            | true => rfl
            | false =>
              have : i ∈ Region.ready .any ops D := mem_ready.mpr ⟨hi, hd, fun o ho j hj => by
                have hlt := hback i o ho j hj
                have h2 := ihn j (by omega) (by omega)
                have hjs : j < D.size := by omega
                simp [hjs] at h2 ⊢; exact h2⟩
              rw [hnil] at this; cases this
      refine ⟨.nil, fun i => ?_⟩
      simp only [List.not_mem_nil, false_iff]
      rintro ⟨h1, h2⟩
      rw [hall i i (Nat.le_refl i) h1] at h2; cases h2
    | some i =>
      have hmem := List.mem_of_getElem? hi
      obtain ⟨r1, r2, r3⟩ := mem_ready.mp hmem
      have hcs := cntF_set (i := i) (by omega) r2
      obtain ⟨g1, g2⟩ := ih (t / (Region.ready .any ops D).length) (D.setIfInBounds i true) (by simpa using hs) (by omega)
      simp only []
      rw [linearise_go_acc, List.reverse_singleton, List.singleton_append]
      have hgd : ∀ k d, (D.setIfInBounds i true).getD k d = if k = i then true else D.getD k d := by
        intro k d
        by_cases e : k = i
        · subst e; simp [show k < D.size by omega]
        · rw [if_neg e]
          simp only [Array.getD_eq_getD_getElem?]
          rw [Array.getElem?_setIfInBounds_ne (fun q => e q.symm)]
      refine ⟨.cons r1 ?_ ?_ g1, fun k => ?_⟩
      · rw [g2]; rintro ⟨_, h2⟩; rw [hgd, if_pos rfl] at h2; cases h2
      · intro o ho j hj hm
        have hlt := hback i o ho j hj
        rcases List.mem_cons.mp hm with rfl | hm
        · omega
        · rw [g2] at hm
          have h3 := r3 o ho j hj
          have h4 := hm.2
          rw [hgd, if_neg (by omega)] at h4
          have hjs : j < D.size := by omega
          simp [hjs] at h3 h4
          rw [h3] at h4; cases h4
      · rw [List.mem_cons, g2, hgd]
        by_cases e : k = i
        · subst e; simp [r1, r2]
        · simp [e]

theorem linearise_spec {ops : Array Oper} (hback : ∀ i o, ops[i]? = some o → ∀ j ∈ edgesOf o, j < i) (t : Nat) :
    Topo ops (Region.linearise .any ops t) ∧ ∀ i, i ∈ Region.linearise .any ops t ↔ i < ops.size := by
  obtain ⟨h1, h2⟩ := go_spec hback ops.size t (Array.replicate ops.size false) (by simp) (by
    unfold cntF; exact Nat.le_trans List.countP_le_length (by simp))
  refine ⟨h1, fun i => ?_⟩
  unfold Region.linearise
  rw [h2]
  constructor
  · exact fun h => h.1
  · intro h; exact ⟨h, by simp [h]⟩

/-! ### what is known of a region -/
structure Info (ops : Array Oper) (all : List RI) : Prop where
  at_ : ∀ (i : Nat) (o : Oper), ops[i]? = some o → ∃ x : RI, all[i]? = some x ∧ x.i = i ∧ x.o = o ∧ x.nm = namesOf ops o
  len : all.length = ops.size
  back : ∀ (i : Nat) (o : Oper), ops[i]? = some o → ∀ j ∈ edgesOf o, j < i
  mask : ∀ (S : Nat → Prop), (∀ (i : Nat) (o : Oper), ops[i]? = some o → S i → ∀ j ∈ edgesOf o, S j) → ∀ (i : Nat) (x : RI), all[i]? = some x → S i → ∀ j, x.mask.testBit j = true → S j
  pairs : ∀ (i j : Nat) (x y : RI), i < j → all[i]? = some x → all[j]? = some y → conf x y = true → y.mask.testBit i = true

theorem maskOf_spec {i : Nat} {t : Tr Nat} : ∀ {es : List Nat} {m : Nat}, maskOf i t es = some m → (∀ e ∈ es, e < i) ∧ ∀ j, m.testBit j = true → ∃ e ∈ es, j = e ∨ ∃ me, t.get e = some me ∧ me.testBit j = true
  | [], m, h => by simp [maskOf] at h; subst h; simp
  | e :: es, m, h => by
    simp only [maskOf] at h
    split at h
    · rename_i hlt
      split at h
      · rename_i me m' hme hm'
        simp at h; subst h
        obtain ⟨h1, h2⟩ := maskOf_spec hm'
        have hlt' : e < i := Nat.le_of_ble_eq_true hlt
        refine ⟨fun x hx => ?_, fun j hj => ?_⟩
        · rcases List.mem_cons.mp hx with rfl | hx
          · exact hlt'
          · exact h1 x hx
        · rw [Nat.testBit_or, Nat.testBit_or] at hj
          simp only [Bool.or_eq_true] at hj
          rcases hj with hj | hj | hj
          · obtain ⟨e', he', hh⟩ := h2 j hj
            exact ⟨e', List.mem_cons_of_mem _ he', hh⟩
          · have : e = j := by
              rw [Nat.testBit_two_pow] at hj; simpa using hj
            exact ⟨e, List.mem_cons_self .., .inl this.symm⟩
          · exact ⟨e, List.mem_cons_self .., .inr ⟨me, hme, hj⟩⟩
      · simp at h
    · simp at h

theorem infosL_spec {ops : Array Oper} : ∀ {os : List Oper} {i : Nat} {t : Tr Nat} {l : List RI}, infosL ops os i t = some l → (∀ k : Nat, os[k]? = ops[i + k]?) →
    (∀ (S : Nat → Prop), (∀ (i : Nat) (o : Oper), ops[i]? = some o → S i → ∀ j ∈ edgesOf o, S j) → ∀ k m, k < i → t.get k = some m → S k → ∀ j, m.testBit j = true → S j) →
    (∀ k m, t.get k = some m → k < i) →
    l.length = os.length ∧ (∀ (k : Nat) (o : Oper), os[k]? = some o → ∃ x : RI, l[k]? = some x ∧ x.i = i + k ∧ x.o = o ∧ x.nm = namesOf ops o ∧ (∀ j ∈ edgesOf o, j < i + k) ∧
      ∀ (S : Nat → Prop), (∀ (i : Nat) (o : Oper), ops[i]? = some o → S i → ∀ j ∈ edgesOf o, S j) → S (i + k) → ∀ j, x.mask.testBit j = true → S j)
  | [], i, t, l, h, hos, ht, htl => by simp [infosL] at h; subst h; simp
  | o :: os, i, t, l, h, hos, ht, htl => by
    simp only [infosL] at h
    split at h
    · rename_i m hm
      split at h
      · rename_i l' hl'
        simp at h; subst h
        obtain ⟨m1, m2⟩ := maskOf_spec hm
        have ho : ops[i]? = some o := by have := hos 0; simpa using this.symm
        have hmask : ∀ (S : Nat → Prop), (∀ (i : Nat) (o : Oper), ops[i]? = some o → S i → ∀ j ∈ edgesOf o, S j) → S i → ∀ j, m.testBit j = true → S j := by
          intro S hS hi j hj
          obtain ⟨e, he, rfl | ⟨me, g1, g2⟩⟩ := m2 j hj
          · exact hS i o ho hi _ he
          · exact ht S hS e me (m1 e he) g1 (hS i o ho hi e he) j g2
        obtain ⟨r1, r2⟩ := infosL_spec (i := i + 1) hl' (fun k => by have := hos (k + 1); rw [show i + 1 + k = i + (k + 1) by omega]; simpa using this)
          (fun S hS k m' hk hg hSk => by
            rw [Tr.get_set] at hg
            split at hg
            · rename_i e; subst e; cases hg; exact hmask S hS hSk
            · exact ht S hS k m' (by have := htl k m' hg; omega) hg hSk)
          (fun k m' hg => by
            rw [Tr.get_set] at hg
            split at hg
            · omega
            · have := htl k m' hg; omega)
        refine ⟨by simp [r1], fun k o' hk => ?_⟩
        cases k with
        | zero =>
          simp at hk; subst hk
          exact ⟨_, rfl, rfl, rfl, rfl, m1, hmask⟩
        | succ k =>
          simp at hk
          obtain ⟨x, x1, x2, x3, x4, x5, x6⟩ := r2 k o' hk
          refine ⟨x, by simpa using x1, by omega, x3, x4, fun j hj => by have := x5 j hj; omega, fun S hS hSk => x6 S hS (by rwa [show i + 1 + k = i + (k + 1) by omega])⟩
      · simp at h
    · simp at h

theorem confsOk_spec {a : RI} : ∀ {l : List RI}, confsOk a l = true → ∀ (j : Nat) (y : RI), l[j]? = some y → conf a y = true → y.mask.testBit a.i = true
  | [], h, j, y, hy, hc => by simp at hy
  | b :: l, h, j, y, hy, hc => by
    simp only [confsOk, Bool.and_eq_true] at h
    cases j with
    | zero => simp at hy; subst hy; simpa [hc] using h.1
    | succ j => simp at hy; exact confsOk_spec h.2 j y hy hc

theorem pairsOk_spec : ∀ {l : List RI}, pairsOk l = true → ∀ (i j : Nat) (x y : RI), i < j → l[i]? = some x → l[j]? = some y → conf x y = true → y.mask.testBit x.i = true
  | [], h, i, j, x, y, hij, hx, hy, hc => by simp at hx
  | a :: l, h, i, j, x, y, hij, hx, hy, hc => by
    simp only [pairsOk, Bool.and_eq_true] at h
    obtain ⟨j, rfl⟩ : ∃ k, j = k + 1 := ⟨j - 1, by omega⟩
    simp at hy
    cases i with
    | zero => simp at hx; subst hx; exact confsOk_spec h.1 j y hy hc
    | succ i => simp at hx; exact pairsOk_spec h.2 i j x y (by omega) hx hy hc

theorem regInfo_spec {ops : Array Oper} {all : List RI} (h : regInfo ops = some all) : Info ops all := by
  unfold regInfo at h
  split at h
  · rename_i l hl
    split at h
    · rename_i hp
      simp at h; subst h
      obtain ⟨r1, r2⟩ := infosL_spec (i := 0) hl (fun k => by simp) (fun S hS k m hk => by omega) (fun k m hg => by simp [Tr.get] at hg)
      have hat : ∀ (i : Nat) (o : Oper), ops[i]? = some o → ∃ x : RI, l[i]? = some x ∧ x.i = i ∧ x.o = o ∧ x.nm = namesOf ops o := by
        intro i o ho
        obtain ⟨x, x1, x2, x3, x4, _⟩ := r2 i o (by simpa using ho)
        exact ⟨x, x1, by omega, x3, x4⟩
      have hlen : l.length = ops.size := by simpa using r1
      have hinv : ∀ (i : Nat) (x : RI), l[i]? = some x → ∃ o, ops[i]? = some o ∧ x.i = i := by
        intro i x hx
        have hlt : i < ops.size := by rw [← hlen]; exact (List.getElem?_eq_some_iff.mp hx).1
        obtain ⟨y, y1, y2, _⟩ := hat i _ (Array.getElem?_eq_getElem hlt)
        rw [hx] at y1; cases y1
        exact ⟨_, Array.getElem?_eq_getElem hlt, y2⟩
      refine ⟨hat, hlen, ?_, ?_, ?_⟩
      · intro i o ho j hj
        obtain ⟨x, x1, x2, x3, x4, x5, _⟩ := r2 i o (by simpa using ho)
        have := x5 j hj; omega
      · intro S hS i x hx hi j hj
        obtain ⟨o, ho, _⟩ := hinv i x hx
        obtain ⟨y, x1, x2, x3, x4, x5, x6⟩ := r2 i o (by simpa using ho)
        rw [hx] at x1; cases x1
        exact x6 S hS (by simpa using hi) j hj
      · intro i j x y hij hx hy hc
        have := pairsOk_spec hp i j x y hij hx hy hc
        obtain ⟨o, _, hxi⟩ := hinv i x hx
        rwa [hxi] at this
    · simp at h
  · simp at h
end Go.EV
